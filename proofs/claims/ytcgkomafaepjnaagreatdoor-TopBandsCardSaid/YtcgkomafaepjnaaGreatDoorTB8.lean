/- Package proof: the state of Prove's loop. Conditions: none of a program's run. | Package proof: node, Good. Conditions: a proof that is good. | Package proof: Prove. Conditions: a tree of few short texts, a key of sixteen bytes. | slices.Backward of texts, for every loop body that turns one box and what is new. Conditions: texts of at most a thousand bytes, at most 128 of them. -/
import Derived.Test.YtcgkomafaepjnaaGreatDoorTB7
import Derived.Test.YtcgkomafaepjnaaGreatDoorTB6
import Derived.Deep.RegionLaw
import Derived.Deep.AppendLies
import Derived.RangeFuncNested
import Derived.RangeFuncBound
import Derived.RangeFuncCalls
import Derived.RangeFuncLeaves
import Derived.Shelf.Abstract
import Derived.OwnWalkIn
import Derived.TacticsInMore
import Derived.LoopNIn
import Derived.LoopIn
namespace Go.Proofs.YtcgkomafaepjnaaGreatDoor
open Go.RowKit

theorem encStr_snoc (l : List Tx) (x : Tx) : (l ++ [x]).map encStr = l.map encStr ++ [.string ⟨x.toArray⟩] := by
  rw [List.map_append]; rfl

/-- The state at the head of the loop, n rounds done. -/
structure PS (q : Nat) (m : Puts) (key : Tx) (d : Nat) (w W : World) (n : Nat) (a : Option Addr) (c : Nat) (v : Value) : Prop where
  ck : W.heap[w.heap.size]? = some (.cells #[.string ⟨key.toArray⟩] 9 (0, 0))
  cr : W.heap[w.heap.size + 1]? = some (.cells #[.slice none 0 0, .bool false, .string ⟨#[]⟩, .string ⟨#[]⟩] 51 (0, 0))
  cp : W.heap[w.heap.size + 2]? = some (.cells #[v, .bool false, .string ⟨#[]⟩, .string ⟨#[]⟩] 51 (0, 0))
  cq : W.heap[q]? = some (.cells #[.slice a (under (keysOf m) key (d + n)).length c] 31 (0, 0))
  row : Keyrow W a c (under (keysOf m) key (d + n))
  own : W.ownsRow (w.heap.size + 3) 9 1 v n ((hs.beside (valOf m) (keysOf m) key d n).map encStr)
  vq : ∀ g, v.ownBlock = some g → g ≠ q
  va : ∀ g g' o', v.ownBlock = some g → a = some ⟨g', o', none⟩ → g ≠ g'
  aq : ∀ g' o', a = some ⟨g', o', none⟩ → q < g'
  bel : Below w.heap.size w W
  more : ∀ i, i < n → 2 ≤ (under (keysOf m) key (d + i)).length
  room : d + n ≤ 128

theorem Keyrow.touch {S : Nat → Prop} {w w' : World} {a : Option Addr} {c : Nat} {ks : List Tx} (h : Keyrow w a c ks) (ht : Touch S w w') (hs : ∀ g o, a = some ⟨g, o, none⟩ → ¬ S g) : Keyrow w' a c ks :=
  ⟨h.room, h.few, fun k hk => by
    obtain ⟨g, o, e, hg, hc⟩ := h.cell k hk
    refine ⟨g, o, e, Nat.lt_of_lt_of_le hg ht.size, ?_⟩
    rw [World.cell?_of_block (w := w) (w' := w') (a := ⟨g, o + k, none⟩) (ht.block g hg (hs g o e))]; exact hc⟩

theorem PS.step {q : Nat} {m : Puts} {key : Tx} {d : Nat} {w W W8 w9 : World} {n c c9 : Nat} {a a9 : Option Addr} {v v' : Value} (h : PS q m key d w W n a c v) (hsq : w.heap.size + 2 < q)
    (hT : Touch (fun k => k = w.heap.size + 2 ∨ v.ownBlock = some k) W W8) (hp : W8.heap[w.heap.size + 2]? = some (.cells #[v', .bool false, .string ⟨#[]⟩, .string ⟨#[]⟩] 51 (0, 0)))
    (ho : W8.ownsRow (w.heap.size + 3) 9 1 v' (n + 1) ((hs.beside (valOf m) (keysOf m) key d (n + 1)).map encStr)) (hloc : ∀ g, v'.ownBlock = some g → v.ownBlock = some g ∨ W.heap.size ≤ g)
    (hB9 : Below W8.heap.size W8 w9) (hr9 : Keyrow w9 a9 c9 (under (keysOf m) key (d + (n + 1)))) (hl9 : ∀ g o, a9 = some ⟨g, o, none⟩ → W8.heap.size ≤ g) (h2 : 2 ≤ (under (keysOf m) key (d + n)).length) (hr : d + (n + 1) ≤ 128) :
    PS q m key d w (w9.setCell ⟨q, 0, none⟩ (.slice a9 (under (keysOf m) key (d + (n + 1))).length c9)) (n + 1) a9 c9 v' := by
  have lq := (Array.getElem?_eq_some_iff.1 h.cq).1
  have vlo : ∀ g, v.ownBlock = some g → w.heap.size + 3 ≤ g := fun g hg => (h.own.lt g hg).1
  have s8 := hT.size
  have s9 := hB9.size
  have hTq : Touch (· = q) w9 (w9.setCell ⟨q, 0, none⟩ (.slice a9 (under (keysOf m) key (d + (n + 1))).length c9)) := Touch.setCell (S := (· = q)) w9 ⟨q, 0, none⟩ _ rfl
  have out : ∀ k, k < w.heap.size + 3 → k ≠ w.heap.size + 2 → ¬ (k = w.heap.size + 2 ∨ v.ownBlock = some k) := fun k hk hne => by
    rintro (e | e)
    · exact hne e
    · have := vlo k e; omega
  have keep : ∀ k o, k < w.heap.size + 3 → k ≠ w.heap.size + 2 → W.heap[k]? = some o → (w9.setCell ⟨q, 0, none⟩ (.slice a9 (under (keysOf m) key (d + (n + 1))).length c9)).heap[k]? = some o := fun k o hk hne ho => by
    have h8 := hT.heap ho (out k hk hne)
    exact hTq.heap ((hB9.block k (Array.getElem?_eq_some_iff.1 h8).1).trans h8) (by omega)
  have h8q := hT.heap h.cq (by
    rintro (e | e)
    · omega
    · exact h.vq q e rfl)
  have v'q : ∀ g, v'.ownBlock = some g → g ≠ q := fun g hg => by
    rcases hloc g hg with e | e
    · exact h.vq g e
    · omega
  refine ⟨keep _ _ (by omega) (by omega) h.ck, keep _ _ (by omega) (by omega) h.cr, ?_, ?_, ?_, ?_, v'q, ?_, ?_, ?_, ?_, hr⟩
  · exact hTq.heap ((hB9.block _ (Array.getElem?_eq_some_iff.1 hp).1).trans hp) (by omega)
  · exact heap_setCell_same w9 q 0 _ _ _ ((hB9.block q (by omega)).trans h8q)
  · exact hr9.touch hTq (fun g o e => by have := hl9 g o e; omega)
  · exact hTq.own ((Touch.of_below hB9 (fun _ => False)).own ho (fun _ _ h => h)) (fun k hk => v'q k hk)
  · intro g g' o' hg e
    have h1 := (ho.lt g hg).2
    have h2 := hl9 g' o' e
    omega
  · intro g' o' e
    have h2 := hl9 g' o' e
    omega
  · have hB8 : Below w.heap.size w W8 := h.bel.trans (hT.below (B := w.heap.size) (by rintro k (e | e); omega; have := vlo k e; omega) h.bel.size)
    exact (hB8.trans (hB9.mono hB8.size)).setCell (p := ⟨q, 0, none⟩) (by show w.heap.size ≤ q; omega) _
  · intro i hi
    by_cases e : i = n
    · rw [e]; exact h2
    · exact h.more i (by omega)

theorem keyrow_of_own {w : World} {R n c : Nat} {a : Option Addr} {ks : List Tx} (h : w.ownsRow R 9 1 (.slice a n c) n (ks.map encStr)) (hf : ks.length ≤ 100000) (hn : n = ks.length) : Keyrow w a c ks ∧ ∀ g o, a = some ⟨g, o, none⟩ → R ≤ g := by
  subst hn
  rcases h.2 with ⟨e, h0⟩ | ⟨g, cap, cur, e, hg, hb, hnc, _⟩
  · injection e with e1 _ e3
    subst e1 e3
    have hnil : ks = [] := List.eq_nil_of_length_eq_zero h0
    subst hnil
    exact ⟨⟨by simp, by simp, fun k hk => by simp at hk⟩, fun _ _ e => by cases e⟩
  · injection e with e1 _ e3
    subst e1 e3
    refine ⟨⟨hnc, hf, fun k hk => ?_⟩, fun g' o' e => by injection e with e; injection e with e; omega⟩
    refine ⟨g, 0, rfl, (Array.getElem?_eq_some_iff.1 hb).1, ?_⟩
    have := h.cells (g := g) rfl k (encStr ks[k]) (by simp [hk])
    have hadd : (⟨g, 0, none⟩ : Addr).add k = ⟨g, 0 + k, none⟩ := by unfold Addr.add; split <;> simp_all
    rw [hadd] at this
    rw [this, List.getD_eq_getElem?_getD, List.getElem?_eq_getElem hk]; rfl

theorem under_under (ks : List Tx) (p : Tx) {d e : Nat} (h : d ≤ e) : under (under ks p d) p e = under ks p e := by
  unfold under
  rw [List.filter_filter]
  refine List.filter_congr fun k _ => ?_
  cases he : alikeTo k p e with
  | false => rfl
  | true => rw [alike_le h he]; rfl
theorem under_lt {m : Puts} (hk : Keys (keysOf m)) (key : Tx) (e : Nat) (h2 : 2 ≤ (under (keysOf m) key e).length) (he : e ≤ 128) : e < 128 := by
  rcases Nat.lt_or_ge e 128 with h | h
  · exact h
  · have hr := under_row hk key e
    rw [show e = 128 from by omega] at hr h2
    have := hr.end
    omega

theorem PS.mid {q : Nat} {m : Puts} {key : Tx} {d : Nat} {w W w6 w7 : World} {n c vc gg cap2 : Nat} {a va : Option Addr} {N : Tx} (h : PS q m key d w W n a c (.slice va n vc)) (hsq : w.heap.size + 2 < q)
    (hN : hs.beside (valOf m) (keysOf m) key d (n + 1) = hs.beside (valOf m) (keysOf m) key d n ++ [N]) (hb6 : Below W.heap.size W w6) (o : Obj) (hg : (w6.alloc o).grownBy w7 (Value.slice va n vc).ownBlock)
    (ho : w7.ownsRow (w.heap.size + 3) 9 1 (.slice (some ⟨gg, 0, none⟩) (n + 1) cap2) (n + 1) ((hs.beside (valOf m) (keysOf m) key d n).map encStr ++ [.string ⟨N.toArray⟩])) (hat : (Value.slice va n vc).ownBlock = some gg ∨ gg = w6.heap.size + 1) :
    Touch (fun k => k = w.heap.size + 2 ∨ (Value.slice va n vc).ownBlock = some k) W (w7.setCell ⟨w.heap.size + 2, 0, none⟩ (.slice (some ⟨gg, 0, none⟩) (n + 1) cap2)) ∧
    (w7.setCell ⟨w.heap.size + 2, 0, none⟩ (.slice (some ⟨gg, 0, none⟩) (n + 1) cap2)).heap[w.heap.size + 2]? = some (.cells #[.slice (some ⟨gg, 0, none⟩) (n + 1) cap2, .bool false, .string ⟨#[]⟩, .string ⟨#[]⟩] 51 (0, 0)) ∧
    (w7.setCell ⟨w.heap.size + 2, 0, none⟩ (.slice (some ⟨gg, 0, none⟩) (n + 1) cap2)).ownsRow (w.heap.size + 3) 9 1 (.slice (some ⟨gg, 0, none⟩) (n + 1) cap2) (n + 1) ((hs.beside (valOf m) (keysOf m) key d (n + 1)).map encStr) ∧
    (∀ g, (Value.slice (some ⟨gg, 0, none⟩) (n + 1) cap2).ownBlock = some g → (Value.slice va n vc).ownBlock = some g ∨ W.heap.size ≤ g) ∧
    (w7.setCell ⟨w.heap.size + 2, 0, none⟩ (.slice (some ⟨gg, 0, none⟩) (n + 1) cap2)).cell? ⟨q, 0, none⟩ = some (.slice a (under (keysOf m) key (d + n)).length c) ∧
    Keyrow (w7.setCell ⟨w.heap.size + 2, 0, none⟩ (.slice (some ⟨gg, 0, none⟩) (n + 1) cap2)) a c (under (keysOf m) key (d + n)) ∧
    (w7.setCell ⟨w.heap.size + 2, 0, none⟩ (.slice (some ⟨gg, 0, none⟩) (n + 1) cap2)).cell? ⟨w.heap.size, 0, none⟩ = some (.string ⟨key.toArray⟩) := by
  have hno : ∀ g, (Value.slice va n vc).ownBlock = some g → w.heap.size + 3 ≤ g := fun g hg => (h.own.lt g hg).1
  have hgg := (ho.lt gg rfl).1
  have s6 := hb6.size
  have T7 : Touch (fun k => (Value.slice va n vc).ownBlock = some k) W w7 := (Touch.of_below (hb6.alloc hb6.size o) _).trans ((Touch.grown hg).mono (fun k hk => .inl hk.symm))
  have T8 : Touch (fun k => k = w.heap.size + 2 ∨ (Value.slice va n vc).ownBlock = some k) W (w7.setCell ⟨w.heap.size + 2, 0, none⟩ (.slice (some ⟨gg, 0, none⟩) (n + 1) cap2)) :=
    (T7.mono (fun k hk => .inl (.inr hk))).trans (Touch.setCell (S := fun k => k = w.heap.size + 2 ∨ (Value.slice va n vc).ownBlock = some k) w7 ⟨w.heap.size + 2, 0, none⟩ _ (.inl rfl))
  have cp7 := T7.heap h.cp (fun e => by have := hno _ e; omega)
  refine ⟨T8, heap_setCell_same w7 _ 0 _ _ _ cp7, ?_, ?_, ?_, ?_, ?_⟩
  · rw [hN, encStr_snoc]
    exact (Touch.setCell (S := (· = w.heap.size + 2)) w7 ⟨w.heap.size + 2, 0, none⟩ _ rfl).own ho (fun k hk => by injection hk with hk; show ¬ k = _; have : k = gg := hk.symm; omega)
  · intro g hg
    injection hg with hg
    have e : g = gg := hg.symm
    rcases hat with e2 | e2
    · exact .inl (by rw [e]; exact e2)
    · exact .inr (by omega)
  · have := T8.heap h.cq (by
      rintro (e | e)
      · omega
      · exact h.vq q e rfl)
    rw [cell_of_row _ _ 0 _ _ _ this]; rfl
  · refine h.row.touch T8 ?_
    rintro g o e (e2 | e2)
    · have := h.aq g o e; omega
    · exact h.va g g o e2 e rfl
  · have := T8.heap h.ck (by
      rintro (e | e)
      · omega
      · have := hno _ e; omega)
    rw [cell_of_row _ _ 0 _ _ _ this]; rfl

end Go.Proofs.YtcgkomafaepjnaaGreatDoor
namespace Go.Proofs.YtcgkomafaepjnaaGreatDoor
open Go.RowKit

set_option maxRecDepth 100000 in
theorem pnode_any (s : Tx) (w : World) (h : okNode s = true) :
    Calls Tryz.prog 93 #[.string ⟨s.toArray⟩] w fun e w' => e = .returned (.bool true) ∧ w' = w := by
  by_cases h0 : s = emp
  · subst h0
    show Calls _ _ #[.string ⟨#[0]⟩] w _
    go_enter Tryz.func93, Tryz.ntmps93
    go_wp2
    go_ret
    exact ⟨rfl, rfl⟩
  · unfold okNode at h
    have h0' : (s == emp) = false := by simp [h0]
    rw [h0', Bool.false_or, Bool.and_eq_true] at h
    obtain ⟨h1, h2⟩ := h
    obtain ⟨x, r, rfl⟩ : ∃ x r, s = x :: r := by
      cases s with
      | nil => simp at h1
      | cons x r => exact ⟨x, r, rfl⟩
    have hr : r.length = 16 := by simp at h1; exact h1
    have hne : ¬ (x :: r) = [0] := h0
    rw [List.head?_cons] at h2
    have hx : x = 1 ∨ x = 2 := by
      rcases Bool.or_eq_true _ _ ▸ h2 with e | e
      · left; simpa using e
      · right; simpa using e
    have hsz : (ByteArray.mk (x :: r).toArray).size = 17 := by show (x :: r).toArray.size = 17; simp [hr]
    have hsz' : (((ByteArray.mk (x :: r).toArray).size : Nat) : Int) = 17 := by rw [hsz]; rfl
    clear h0 h0' h1 h2
    rcases hx with rfl | rfl
    · go_enter Tryz.func93, Tryz.ntmps93
      go_wp2
      go_ret
      exact ⟨rfl, rfl⟩
    · go_enter Tryz.func93, Tryz.ntmps93
      go_wp2
      all_goals (go_ret; exact ⟨rfl, rfl⟩)

/-- A proof in the world. -/
def PfAt (w : World) (v : Value) (p : Pf) : Prop := ∃ a c, v = .agg #[.slice a p.beside.length c, .bool p.there, .string ⟨p.key.toArray⟩, .string ⟨p.val.toArray⟩] ∧ Keyrow w a c p.beside
theorem PfAt.old {w w' : World} {v : Value} {p : Pf} (h : PfAt w v p) (hb : Below w.heap.size w w') : PfAt w' v p := by
  obtain ⟨a, c, e, h⟩ := h
  exact ⟨a, c, e, h.old hb⟩
theorem four_of_cells {w : World} {b : Nat} {x0 x1 x2 x3 : Value} {t : TypeId} (h : w.heap[b]? = some (.cells #[x0, x1, x2, x3] t (0, 0))) :
    w.cell? ⟨b, 0, none⟩ = some x0 ∧ w.cell? ⟨b, 1, none⟩ = some x1 ∧ w.cell? ⟨b, 2, none⟩ = some x2 ∧ w.cell? ⟨b, 3, none⟩ = some x3 :=
  ⟨by rw [cell_of_row _ _ 0 _ _ _ h]; rfl, by rw [cell_of_row _ _ 1 _ _ _ h]; rfl, by rw [cell_of_row _ _ 2 _ _ _ h]; rfl, by rw [cell_of_row _ _ 3 _ _ _ h]; rfl⟩

set_option maxRecDepth 100000 in
set_option maxHeartbeats 4000000 in
theorem pgood_any (v : Value) (p : Pf) (key : Tx) (d : Nat) (w : World) (hv : PfAt w v p) (hg : IsGood p key d) :
    Calls Tryz.prog 48 #[v, .string ⟨key.toArray⟩, .int .i64 (d : Int)] w fun e w' => e = .returned (.bool true) ∧ Below w.heap.size w w' := by
  obtain ⟨a, c, rfl, hrow⟩ := hv
  obtain ⟨klen, room, nodes, last, none_, some_⟩ := hg
  obtain ⟨bs, there, pk, pv⟩ := p
  dsimp only at *
  obtain ⟨n, hn⟩ : ∃ n, bs.length = n := ⟨_, rfl⟩
  have hcell : Hid (∀ k, k < n → ∃ g o, a = some ⟨g, o, none⟩ ∧ g < w.heap.size ∧ ∃ s : Tx, w.cell? ⟨g, o + k, none⟩ = some (.string ⟨s.toArray⟩) ∧ okNode s = true ∧ (k + 1 = n → s ≠ emp ∧ (there = true ∨ s.head? = some 2))) := Lib.hid (by
    intro k hk
    obtain ⟨g, o, e, hgl, hc⟩ := hrow.cell k (by omega)
    have hget : bs.getD k [] = bs[k] := by rw [List.getD_eq_getElem?_getD, List.getElem?_eq_getElem (by omega)]; rfl
    rw [hget] at hc
    refine ⟨g, o, e, hgl, bs[k], hc, nodes _ (List.getElem_mem _), fun hk1 => last (bs.take k) bs[k] ?_⟩
    rw [← List.take_succ_eq_append_getElem (by omega), List.take_of_length_le (by omega)])
  have hroom := hrow.room
  rw [hn] at room hroom some_ ⊢
  have hright := Lib.hid (fun W => right_any ⟨key.toArray⟩ d W (by show key.toArray.size = 16; rw [List.size_toArray, klen]) (by omega))
  have hbelow := Lib.hid (fun W => below_any ⟨pk.toArray⟩ ⟨key.toArray⟩ ((d + n : Nat) : Int) W)
  clear hrow nodes last hn
  obtain ⟨W0, hW0⟩ : ∃ W0, W0 = w.alloc (.cells #[.slice a n c, .bool there, .string ⟨pk.toArray⟩, .string ⟨pv.toArray⟩] 51) := ⟨_, rfl⟩
  have hB0 : Below w.heap.size w W0 := by rw [hW0]; exact (Below.refl _ _).alloc (Nat.le_refl _) _
  obtain ⟨x0, x1, x2, x3⟩ := four_of_cells (w := W0) (b := w.heap.size) (t := 51) (by rw [hW0]; exact heap_alloc_new _ _)
  have hcell : Hid (∀ k, k < n → ∃ g o, a = some ⟨g, o, none⟩ ∧ g < w.heap.size ∧ ∃ s : Tx, W0.cell? ⟨g, o + k, none⟩ = some (.string ⟨s.toArray⟩) ∧ okNode s = true ∧ (k + 1 = n → s ≠ emp ∧ (there = true ∨ s.head? = some 2))) := Lib.hid (fun k hk => by
    obtain ⟨g, o, e, hgl, s, hc, h⟩ := hcell.out k hk
    exact ⟨g, o, e, hgl, s, (hB0.cell (p := ⟨g, o + k, none⟩) hgl).trans hc, h⟩)
  have hsub : ((128 : Int) - d < n) = False := by simp; omega
  have HB0 := Lib.hid hB0
  have None_ := Lib.hid none_
  have Some_ := Lib.hid some_
  have Klen := Lib.hid klen
  clear hB0 none_ some_ klen
  go_enter Tryz.func48, Tryz.ntmps48
  go_wp2_with fail
  rw [← hW0]
  refine (hright.out W0).mono ?_
  rintro e w' ⟨rfl, rfl⟩
  clear hright hW0
  go_wp2_with fail
  go_loop [27] (fun i => ∃ k : Nat, k ≤ n ∧ i = .int .i64 k) (fun i => n - (intOf i).toNat)
  case atStart => exact ⟨0, Nat.zero_le _, rfl⟩
  case round =>
    obtain ⟨k, hk, rfl⟩ := hrel
    by_cases hkl : k < n
    · obtain ⟨g, o, rfl, _, t, hc, hok, _⟩ := hcell.out k hkl
      have hnode := pnode_any t w' hok
      clear hok
      go_wp2_with fail
      refine hnode.mono ?_
      rintro e w2 ⟨rfl, rfl⟩
      clear hnode
      go_wp2
      go_round
      case rel => exact ⟨k + 1, by omega, by go_num⟩
      case measure => simp [intOf]; omega
    · obtain rfl : k = n := by omega
      -- behind the loop: there, or not
      have tail : there = true → Hid ((pk.length = 16 ∧ alikeTo pk key (d + k) = true)) := fun h => Lib.hid (Some_.out h)
      have tail' : there = false → Hid (pk = [] ∧ pv = []) := fun h => Lib.hid (None_.out h)
      by_cases hk0 : k = 0
      · subst hk0
        cases there
        · obtain ⟨rfl, rfl⟩ := (tail' rfl).out
          clear tail tail' hcell
          go_wp2
          go_ret
          exact ⟨rfl, HB0.out⟩
        · obtain ⟨t1, t2⟩ := (tail rfl).out
          have hsz : (((ByteArray.mk pk.toArray).size : Nat) : Int) = 16 := by show ((pk.toArray.size : Nat) : Int) = 16; rw [List.size_toArray, t1]; rfl
          have hb := hbelow.out w' (by show pk.toArray.size ≤ _; rw [List.size_toArray]; omega) (by show key.toArray.size ≤ _; rw [List.size_toArray, Klen.out]; decide)
          rw [depthNat_in _ room] at hb
          simp only [Nat.add_zero] at hb t2
          rw [t2] at hb
          clear tail tail' hcell t2 t1
          go_wp2_with fail
          refine hb.mono ?_
          rintro e w2 ⟨rfl, rfl⟩
          go_wp2
          go_ret
          exact ⟨rfl, HB0.out⟩
      · obtain ⟨g, o, rfl, _, t, hc, hok, hl⟩ := hcell.out (k - 1) (by omega)
        obtain ⟨hne, hor⟩ := hl (by omega)
        have hkp : (0 : Int) < (k : Int) := by omega
        have hne' : (t == [0]) = false := by rw [beq_eq_false_iff_ne]; exact hne
        have hne2 : ((⟨t.toArray⟩ : ByteArray).toList == [0]) = false := by rw [one_list]; exact hne'
        have hk0' : ((k : Int) == 0) = false := by simp; omega
        clear hok hl hcell hne hk0
        cases there
        · obtain ⟨rfl, rfl⟩ := (tail' rfl).out
          obtain ⟨r, rfl⟩ : ∃ r, t = 2 :: r := by
            rcases hor with h | h
            · cases h
            · cases t with
              | nil => cases h
              | cons x r => rw [List.head?_cons] at h; injection h with h; exact ⟨r, by rw [h]⟩
          clear tail tail' hor hne' hne2
          have hsz : (((ByteArray.mk (2 :: r).toArray).size : Nat) : Int) = (r.length : Int) + 1 := by show (((2 :: r).toArray.size : Nat) : Int) = _; simp
          have hsz2 : 0 < (ByteArray.mk (2 :: r).toArray).size := by show 0 < (2 :: r).toArray.size; simp
          go_wp2
          all_goals (go_ret; exact ⟨rfl, HB0.out⟩)
        · obtain ⟨t1, t2⟩ := (tail rfl).out
          have hsz : (((ByteArray.mk pk.toArray).size : Nat) : Int) = 16 := by show ((pk.toArray.size : Nat) : Int) = 16; rw [List.size_toArray, t1]; rfl
          have hb := hbelow.out w' (by show pk.toArray.size ≤ _; rw [List.size_toArray]; omega) (by show key.toArray.size ≤ _; rw [List.size_toArray, Klen.out]; decide)
          rw [depthNat_in _ room] at hb
          rw [t2] at hb
          have hw : wrap64 ((d : Int) + k) = ((d + k : Nat) : Int) := by rw [IntWalk.wrap64_in _ (by omega)]; omega
          clear tail tail' t2 t1 hor
          go_wp2_with fail
          refine hb.mono ?_
          rintro e w2 ⟨rfl, rfl⟩
          go_wp2
          go_ret
          exact ⟨rfl, HB0.out⟩

end Go.Proofs.YtcgkomafaepjnaaGreatDoor
namespace Go.Proofs.YtcgkomafaepjnaaGreatDoor
open Go.RowKit

set_option maxRecDepth 100000 in
set_option maxHeartbeats 8000000 in
theorem pprove_any (p b : Nat) (m : Puts) (key : Tx) (d : Nat) (w : World) (ht : TreeAt w p b m) (hK : Kon w) (hkey : key.length = 16) (hd : d ≤ 128) :
    Calls Tryz.prog 19 #[.pointer (some ⟨p, 0, none⟩), .string ⟨key.toArray⟩, .int .i64 (d : Int)] w fun e w' => ∃ a c pf n, e = .returned (.tuple #[.agg #[.slice a pf.beside.length c, .bool pf.there, .string ⟨pf.key.toArray⟩, .string ⟨pf.val.toArray⟩], .int .i64 0]) ∧ Keyrow w' a c pf.beside ∧ Made hs (valOf m) (keysOf m) key d pf n ∧ Below w.heap.size w w' ∧ ∀ g o, a = some ⟨g, o, none⟩ → w.heap.size ≤ g := by
  have hlt := ht.lt
  have hks := keys_keysOf (m := m) fun q hq => (ht.small q hq).1
  have hkl := length_keysOf m
  have hfew := ht.few
  have HT := Lib.hid ht
  have HK := Lib.hid hK
  obtain ⟨W0, hW0⟩ : ∃ W0, W0 = (w.alloc (.cells #[.string ⟨key.toArray⟩] 9)).alloc (.cells #[.slice none 0 0, .bool false, .string ⟨#[]⟩, .string ⟨#[]⟩] 51) := ⟨_, rfl⟩
  obtain ⟨W1, hW1⟩ : ∃ W1, W1 = W0.alloc (.cells #[.slice none 0 0, .bool false, .string ⟨#[]⟩, .string ⟨#[]⟩] 51) := ⟨_, rfl⟩
  have hB0 : Below w.heap.size w W0 := by rw [hW0]; exact ((Below.refl _ _).alloc (Nat.le_refl _) _).alloc (by simp) _
  have hs0 : W0.heap.size = w.heap.size + 2 := by rw [hW0]; simp
  have hB1 : Below w.heap.size w W1 := by rw [hW1]; exact hB0.alloc hB0.size _
  have hs1 : W1.heap.size = w.heap.size + 3 := by rw [hW1]; simp [hs0]
  have ck1 : W1.heap[w.heap.size]? = some (.cells #[.string ⟨key.toArray⟩] 9 (0, 0)) := by
    rw [hW1, Below.heap_alloc _ _ _ (by omega), hW0, Below.heap_alloc _ _ _ (by simp)]; exact heap_alloc_new _ _
  have cr1 : W1.heap[w.heap.size + 1]? = some (.cells #[.slice none 0 0, .bool false, .string ⟨#[]⟩, .string ⟨#[]⟩] 51 (0, 0)) := by
    rw [hW1, Below.heap_alloc _ _ _ (by omega), hW0]; exact heap_alloc2_new _ _ _
  have cp1 : W1.heap[w.heap.size + 2]? = some (.cells #[.slice none 0 0, .bool false, .string ⟨#[]⟩, .string ⟨#[]⟩] 51 (0, 0)) := by
    rw [hW1, show w.heap.size + 2 = W0.heap.size from by omega]; exact heap_alloc_new _ _
  have hkeys := Lib.hid (tkeys_any p b m W1 (ht.old hB1))
  have hright := Lib.hid (right_any ⟨key.toArray⟩ d W0 (by show key.toArray.size = 16; rw [List.size_toArray, hkey]) hd)
  have CK1 := Lib.hid ck1
  have CR1 := Lib.hid cr1
  have CP1 := Lib.hid cp1
  have HB1 := Lib.hid hB1
  clear ht hK ck1 cr1 cp1 hB0 hB1
  go_enter Tryz.func19, Tryz.ntmps19
  go_wp2_with fail
  rw [← hW0]
  refine hright.out.mono ?_
  rintro e w' ⟨rfl, rfl⟩
  clear hright hW0
  go_wp2_with fail
  rw [← hW1]
  refine hkeys.out.mono ?_
  rintro e w2 ⟨v0, rfl, ho, _, hB2⟩
  clear hkeys hW1
  obtain ⟨a0, c0, rfl⟩ := own_slice ho
  obtain ⟨hr0, hl0⟩ := keyrow_of_own ho (by omega) rfl
  rw [show (keysOf m) = under (keysOf m) key 0 from (under_zero _ _).symm] at hr0
  have hBw2 : Below w.heap.size w w2 := HB1.out.trans (hB2.mono HB1.out.size)
  have s2 := hB2.size
  obtain ⟨q, hq⟩ : ∃ q, w2.heap.size = q := ⟨_, rfl⟩
  have hqs : w.heap.size + 3 ≤ q := by omega
  obtain ⟨W3, hW3⟩ : ∃ W3, W3 = w2.alloc (.cells #[.slice a0 (keysOf m).length c0] 31) := ⟨_, rfl⟩
  have hB3 : Below w2.heap.size w2 W3 := by rw [hW3]; exact (Below.refl _ _).alloc (Nat.le_refl _) _
  have hs3 : W3.heap.size = q + 1 := by rw [hW3]; simp [hq]
  have cq3 : W3.heap[q]? = some (.cells #[.slice a0 (keysOf m).length c0] 31 (0, 0)) := by rw [hW3, ← hq]; exact heap_alloc_new _ _
  have ck3 := (hB3.block _ (by omega)).trans ((hB2.block _ (by omega)).trans CK1.out)
  have cr3 := (hB3.block _ (by omega)).trans ((hB2.block _ (by omega)).trans CR1.out)
  have cp3 := (hB3.block _ (by omega)).trans ((hB2.block _ (by omega)).trans CP1.out)
  have hpin := Lib.hid (pin_any q w.heap.size c0 a0 (keysOf m) key d W3 (by rw [cell_of_row _ _ 0 _ _ _ cq3]; rfl) (by rw [under_zero] at hr0; exact hr0.old hB3) (by rw [cell_of_row _ _ 0 _ _ _ ck3]; rfl) hks.len (by omega) hd)
  have HC3 := Lib.hid (And.intro cq3 (And.intro ck3 (And.intro cr3 cp3)))
  have hBw3 := Lib.hid (hBw2.trans (hB3.mono hBw2.size))

  clear hr0 hl0 ho hB2 hB3 CK1 CR1 CP1 cq3 ck3 cr3 cp3 hBw2
  go_wp2_with fail
  rw [← hW3]
  refine hpin.out.mono ?_
  rintro e w4 ⟨a4, c4, rfl, hr4, hB4, hl4⟩
  clear hpin hW3
  obtain ⟨cq3, ck3, cr3, cp3⟩ := HC3.out
  have cq4 := (hB4.block _ (by omega)).trans cq3
  have yq := cell_of_row _ _ 0 _ _ _ cq4
  have fq := frozen_of_row _ _ 0 _ _ cq4
  change _ = some (Value.slice a0 (keysOf m).length c0) at yq
  have hst : PS q m key d w (w4.setCell ⟨q, 0, none⟩ (.slice a4 (under (keysOf m) key d).length c4)) 0 a4 c4 (.slice none 0 0) := by
    have hTq : Touch (· = q) w4 (w4.setCell ⟨q, 0, none⟩ (.slice a4 (under (keysOf m) key d).length c4)) := Touch.setCell (S := (· = q)) w4 ⟨q, 0, none⟩ _ rfl
    exact ⟨hTq.heap ((hB4.block _ (by omega)).trans ck3) (by omega), hTq.heap ((hB4.block _ (by omega)).trans cr3) (by omega), hTq.heap ((hB4.block _ (by omega)).trans cp3) (by omega), heap_setCell_same w4 q 0 _ _ _ cq4, hr4.touch hTq (fun g o e => by have := hl4 g o e; omega), World.ownsRow_nil _ _ _ _, (by intro g hg; cases hg), (by intro g g' o' hg; cases hg), fun g' o' e => by have := hl4 g' o' e; omega, ((hBw3.out.trans (hB4.mono hBw3.out.size)).setCell (p := ⟨q, 0, none⟩) (by show w.heap.size ≤ q; omega) _), fun i hi => by omega, by omega⟩
  have HST := Lib.hid hst
  clear hst HC3 cq3 ck3 cr3 cp3 cq4 hr4 hl4 hB4 hBw3
  obtain ⟨i0, hi, hz0, hz1, hz2⟩ := info_parts Tryz.infoStr
  go_wp2_with fail
  generalize (w4.setCell ⟨q, 0, none⟩ (.slice a4 (under (keysOf m) key d).length c4)) = V at HST ⊢
  go_loopw [11] (fun dep W => ∃ n a c v, dep = .int .i64 ((d + n : Nat) : Int) ∧ PS q m key d w W n a c v) (fun dep W => 128 - (intOf dep).toNat)
  case atStart => exact ⟨0, a4, c4, .slice none 0 0, rfl, HST.out⟩
  case round =>
    obtain ⟨n, a, c, v, rfl, hps⟩ := hrel
    have Hps := Lib.hid hps
    obtain ⟨e, he⟩ : ∃ e, d + n = e := ⟨_, rfl⟩
    have yq := cell_of_row _ _ 0 _ _ _ hps.cq
    change _ = some (Value.slice a (under (keysOf m) key (d + n)).length c) at yq
    have hroom := hps.room
    have hpsize := hps.bel.size
    have hlq := (Array.getElem?_eq_some_iff.1 hps.cq).1
    rw [he] at yq hroom ⊢
    by_cases h2 : 2 ≤ (under (keysOf m) key e).length
    · have he128 : e < 128 := under_lt hks key e h2 hroom
      have hgt : (1 : Int) < ((under (keysOf m) key e).length : Int) := by omega
      have zk := cell_of_row _ _ 0 _ _ _ hps.ck
      change _ = some (Value.string ⟨key.toArray⟩) at zk
      have zkf := frozen_of_row _ _ 0 _ _ hps.ck
      have z4 := cell_of_row _ _ 0 _ _ _ hps.cp
      have z4f := frozen_of_row _ _ 0 _ _ hps.cp
      change _ = some v at z4
      have hown := Lib.hid hps.own
      have hnown : ∀ g, v.ownBlock = some g → w.heap.size + 3 ≤ g := fun g hg => (hps.own.lt g hg).1
      obtain ⟨va, vc, rfl⟩ := own_slice hps.own
      have hltk : w.heap.size < wr.heap.size := by omega
      have hlt2 : w.heap.size + 2 < wr.heap.size := by omega
      have hturn := turned_any key e wr.drew hkey he128
      have hNode : Hid (∀ W5, Below wr.heap.size wr W5 → Calls Tryz.prog 44 #[.pointer (some ⟨p, 0, none⟩), .string ⟨(turn key e).toArray⟩, .int .i64 ((e : Int) + 1)] W5 fun r w' => r = .returned (.string ⟨(hs.at (valOf m) (keysOf m) (turn key e) (e + 1)).toArray⟩) ∧ Below W5.heap.size W5 w') := Lib.hid (fun W5 hb => by
        have hBW : Below w.heap.size w W5 := Hps.out.bel.trans (hb.mono hpsize)
        have := tat_any p b m (turn key e) (e + 1) W5 (HT.out.old hBW) (HK.out.old hBW) (by rw [turn_length, hkey]; decide) (by omega)
        rw [show ((e + 1 : Nat) : Int) = (e : Int) + 1 from by omega] at this
        exact this)
      have hsnE := Lib.hid (beside_snoc hs (valOf m) (keysOf m) key n d)
      rw [he] at hsnE
      generalize hs.at (valOf m) (keysOf m) (turn key e) (e + 1) = N at hNode hsnE
      generalize turn key e = tk at hturn hNode
      have hw1 : IntKind.i64.wrap ((e : Int) + 1) = (e : Int) + 1 := by rw [IntKind.wrap_i64]; omega
      have HG : Hid (∀ w6 o w7, Below wr.heap.size wr w6 → (w6.alloc o).grownBy w7 (Value.slice va n vc).ownBlock → (w7.cell? ⟨w.heap.size + 2, 0, none⟩ = some (.slice va n vc) ∧ w7.frozen? ⟨w.heap.size + 2, 0, none⟩ = false)) := Lib.hid (fun w6 o w7 hb hg => by
        have hb6 : Below wr.heap.size wr (w6.alloc o) := hb.alloc hb.size o
        have e1 : w7.heap[w.heap.size + 2]? = wr.heap[w.heap.size + 2]? := (hg.block _ (Nat.lt_of_lt_of_le hlt2 hb6.size) (fun e => by have := hnown _ e.symm; omega)).trans (hb6.block _ hlt2)
        exact ⟨(World.cell?_of_block (w := wr) (w' := w7) (a := ⟨w.heap.size + 2, 0, none⟩) e1).trans z4, (World.frozen?_of_block (w := wr) (w' := w7) (a := ⟨w.heap.size + 2, 0, none⟩) e1).trans z4f⟩)
      have hO : Hid (∀ w6, Below wr.heap.size wr w6 → w6.ownsRow (w.heap.size + 3) 9 1 (.slice va n vc) n ((hs.beside (valOf m) (keysOf m) key d n).map encStr)) := Lib.hid (fun w6 hb => (Touch.of_below hb (fun _ => False)).own hown.out (fun _ _ h => h))
      have hn128 : n ≤ 128 := by omega
      have Hh2 := Lib.hid h2
      clear hown h2 hps
      go_wp2_with fail
      go_region_law (first
        | (go_simp; go_at_call 60; refine hturn.mono ?_; rintro r w5 ⟨rfl, hb5⟩; have hb5' := below_call hb5; obtain ⟨z5, z5f, _⟩ := keepC z4 z4f hb5' hlt2; have z5k := (keepC zk zkf hb5' hltk).1)
        | (go_simp; go_at_call 44; refine (hNode.out w5 hb5').mono ?_; rintro r w6 ⟨rfl, hb6⟩; have hb6' := hb5'.trans (hb6.mono hb5'.size); obtain ⟨z6, z6f, _⟩ := keepC z4 z4f hb6' hlt2; have z6a := keepE z4 z4f hb6' hlt2)
        | (refine step_append_lies _ (by rfl) _ _ _ (by rfl) (w.heap.size + 3) 9 i0 _ 1 16 Tryz.underlying31 hi hz0 hz1 hz2 rfl (by omega) (.slice va n vc) n _ (by rfl) ((hO.out w6 hb6').alloc _) ⟨w6.heap.size, 0, none⟩ 1 1 [.string ⟨N.toArray⟩] (by rfl) (by rfl) (World.news_of_block (cs := #[.string ⟨N.toArray⟩]) (t := 9) (fr := (0, 0)) (heap_alloc_new w6 _)) (by simp [Value.oneCell']) (by omega) (by unfold maxLen; omega) (by omega) (by have := hb6'.size; simp; omega) (w6.heap.size + 1) (by simp) ?_; intro gg cap2 w7 ho7 hg7 hat hlt7; obtain ⟨z7, z7f⟩ := HG.out _ _ _ hb6' hg7))
      all_goals
        obtain ⟨T8, hp8, ho8, hloc, yq8, row8, yk8⟩ := Hps.out.mid (by omega) hsnE.out hb6' _ hg7 ho7 hat
        rw [he] at yq8 row8
        have hpin := pin_any q w.heap.size c a (under (keysOf m) key e) key (e + 1) _ yq8 row8 yk8 (fun k hk => hks.len k (mem_under.1 hk).1) (by omega) (by omega)
        rw [under_under _ _ (Nat.le_succ e), show ((e + 1 : Nat) : Int) = (e : Int) + 1 from by omega] at hpin
        have Hpin := Lib.hid hpin
        have HT8 := Lib.hid T8
        have HP8 := Lib.hid (And.intro hp8 (And.intro ho8 hloc))
        have cq8 := T8.heap Hps.out.cq (by
          rintro (e | e)
          · omega
          · exact Hps.out.vq q e rfl)
        have s8 := T8.size
        clear hpin T8 hp8 ho8 hloc row8 yk8 z4 z4f z5 z5f z5k z6 z6f z6a z7 z7f zk zkf ho7 hg7 hat hb5 hb5' hb6 hb6' hturn hNode HG hO yq
        generalize (w7.setCell ⟨w.heap.size + 2, 0, none⟩ (.slice (some ⟨gg, 0, none⟩) (n + 1) cap2)) = W8 at Hpin HT8 HP8 cq8 s8 yq8 ⊢
        go_wp2_with fail
        refine Hpin.out.mono ?_
        rintro e9 w9 ⟨a9, c9, rfl, hr9, hB9, hl9⟩
        have cq9 := (hB9.block q (by omega)).trans cq8
        have yq9 := cell_of_row _ _ 0 _ _ _ cq9
        have fq9 := frozen_of_row _ _ 0 _ _ cq9
        change _ = some (Value.slice a _ c) at yq9
        have HPS := Lib.hid (Hps.out.step (a9 := a9) (c9 := c9) (by omega) HT8.out HP8.out.1 HP8.out.2.1 HP8.out.2.2 hB9 (by rw [show d + (n + 1) = e + 1 from by omega]; exact hr9) hl9 (by rw [he]; exact Hh2.out) (by omega))
        rw [show d + (n + 1) = e + 1 from by omega] at HPS
        clear Hpin HT8 HP8 cq8 s8 yq8 hr9 hB9 hl9 cq9 Hh2
        go_wp2
        go_roundw
        case rel => exact ⟨n + 1, a9, c9, _, by rw [show d + (n + 1) = e + 1 from by omega]; go_num, HPS.out⟩
        case measure => simp [intOf]; omega
    · have hown := hps.own
      have hnown : ∀ g, v.ownBlock = some g → w.heap.size + 3 ≤ g := fun g hg => (hps.own.lt g hg).1
      obtain ⟨va, vc, rfl⟩ := own_slice hown
      have hbl := beside_length hs (valOf m) (keysOf m) key n d
      obtain ⟨hrv, hlv⟩ := keyrow_of_own hown (by omega) hbl.symm
      have more := hps.more
      obtain ⟨z0, z1, z2, z3⟩ := four_of_cells hps.cp
      have fz1 := frozen_of_row _ _ 1 _ _ hps.cp
      have fz2 := frozen_of_row _ _ 2 _ _ hps.cp
      have fz3 := frozen_of_row _ _ 3 _ _ hps.cp
      obtain ⟨r0, r1, r2, r3⟩ := four_of_cells hps.cr
      have fr0 := frozen_of_row _ _ 0 _ _ hps.cr
      have fr1 := frozen_of_row _ _ 1 _ _ hps.cr
      have fr2 := frozen_of_row _ _ 2 _ _ hps.cr
      have fr3 := frozen_of_row _ _ 3 _ _ hps.cr
      cases hU : under (keysOf m) key e with
      | nil =>
        rw [hU] at yq h2
        have yq : wr.cell? ⟨q, 0, none⟩ = some (.slice a 0 c) := yq
        have fin4 := heap_setCell_same _ (w.heap.size + 1) 3 _ _ (.string ⟨#[]⟩) (heap_setCell_same _ (w.heap.size + 1) 2 _ _ (.string ⟨#[]⟩) (heap_setCell_same _ (w.heap.size + 1) 1 _ _ (.bool false) (heap_setCell_same wr (w.heap.size + 1) 0 _ _ (.slice va n vc) hps.cr)))
        have T4 : Touch (· = w.heap.size + 1) wr ((((wr.setCell ⟨w.heap.size + 1, 0, none⟩ (.slice va n vc)).setCell ⟨w.heap.size + 1, 1, none⟩ (.bool false)).setCell ⟨w.heap.size + 1, 2, none⟩ (.string ⟨#[]⟩)).setCell ⟨w.heap.size + 1, 3, none⟩ (.string ⟨#[]⟩)) :=
          (((Touch.setCell (S := (· = w.heap.size + 1)) wr ⟨w.heap.size + 1, 0, none⟩ _ rfl).trans (Touch.setCell (S := (· = w.heap.size + 1)) _ ⟨w.heap.size + 1, 1, none⟩ _ rfl)).trans (Touch.setCell (S := (· = w.heap.size + 1)) _ ⟨w.heap.size + 1, 2, none⟩ _ rfl)).trans (Touch.setCell (S := (· = w.heap.size + 1)) _ ⟨w.heap.size + 1, 3, none⟩ _ rfl)
        have Fin4 := Lib.hid fin4
        have HT4 := Lib.hid T4
        have Hrv := Lib.hid (And.intro hrv hlv)
        have Hmore := Lib.hid more
        have HU := Lib.hid hU
        clear fin4 T4 hrv hlv more hU hown hnown hps h2 hbl
        go_wp2_with fail
        have hrow4 := Fin4.out
        have hT4 := HT4.out
        generalize ((((wr.setCell ⟨w.heap.size + 1, 0, none⟩ (.slice va n vc)).setCell ⟨w.heap.size + 1, 1, none⟩ (.bool false)).setCell ⟨w.heap.size + 1, 2, none⟩ (.string ⟨#[]⟩)).setCell ⟨w.heap.size + 1, 3, none⟩ (.string ⟨#[]⟩)) = V4 at hrow4 hT4 ⊢
        have hrow4 : V4.heap[w.heap.size + 1]? = some (.cells #[.slice va n vc, .bool false, .string ⟨#[]⟩, .string ⟨#[]⟩] 51 (0, 0)) := hrow4
        obtain ⟨p0, p1, p2, p3⟩ := four_of_cells hrow4
        refine bodyPost_ret (v := .tuple #[.agg #[.slice va n vc, .bool false, .string ⟨#[]⟩, .string ⟨#[]⟩], .int .i64 0]) ?_ rfl ⟨va, vc, ⟨hs.beside (valOf m) (keysOf m) key d n, false, [], []⟩, n, ?_, ?_, ?_, ?_, ?_⟩
        · simp [results, Tryz.f19, go_sem, p0, p1, p2, p3]
        · dsimp only; rw [beside_length]
        · exact Hrv.out.1.touch hT4 (fun g o e => by have := Hrv.out.2 g o e; omega)
        · exact ⟨hkey, by omega, rfl, Hmore.out, .inl ⟨by rw [he]; exact HU.out, rfl, rfl, rfl⟩⟩
        · exact Hps.out.bel.trans (hT4.below (B := w.heap.size) (by rintro i rfl; omega) hpsize)
        · intro g o e; have := Hrv.out.2 g o e; omega
      | cons k l =>
        obtain rfl : l = [] := by
          rw [hU] at h2
          cases l with
          | nil => rfl
          | cons x l => simp at h2
        rw [hU] at yq
        have yq : wr.cell? ⟨q, 0, none⟩ = some (.slice a 1 c) := yq
        have hrow := hps.row
        rw [he, hU] at hrow
        obtain ⟨g, o, rfl, _, hc⟩ := hrow.cell 0 (by simp)
        have hc : wr.cell? ⟨g, o, none⟩ = some (.string ⟨k.toArray⟩) := hc
        have hk16 : k.length = 16 := hks.len k ((mem_under (p := key) (d := e)).1 (by rw [hU]; simp)).1
        have hgq := hps.aq g o rfl
        have zp := hps.cp
        clear hrow
        go_wp2_with fail
        have nq : ¬ (w.heap.size + 2 = q) := by omega
        have ng : ¬ (w.heap.size + 2 = g) := by omega
        have hcq : ∀ v, (wr.drew.setCell ⟨w.heap.size + 2, 1, none⟩ v).cell? ⟨q, 0, none⟩ = some (.slice (some ⟨g, o, none⟩) 1 c) := fun v => by
          rw [World.cell?_setCell_other (a := ⟨w.heap.size + 2, 1, none⟩) (b := ⟨q, 0, none⟩) (h := by intro h; injection h with h; exact nq h)]; exact yq
        have hcg : ∀ v, (wr.drew.setCell ⟨w.heap.size + 2, 1, none⟩ v).cell? ⟨g, o, none⟩ = some (.string ⟨k.toArray⟩) := fun v => by
          rw [World.cell?_setCell_other (a := ⟨w.heap.size + 2, 1, none⟩) (b := ⟨g, o, none⟩) (h := by intro h; injection h with h; exact ng h)]; exact hc
        go_region_law (fail)
        all_goals
          have hv2 : (((wr.setCell ⟨w.heap.size + 2, 1, none⟩ (.bool true)).setCell ⟨w.heap.size + 2, 2, none⟩ (.string ⟨k.toArray⟩)).drew).heap[w.heap.size + 2]? = some (.cells #[.slice va n vc, .bool true, .string ⟨k.toArray⟩, .string ⟨#[]⟩] 51 (0, 0)) :=
            heap_setCell_same _ (w.heap.size + 2) 2 _ _ (.string ⟨k.toArray⟩) (heap_setCell_same wr (w.heap.size + 2) 1 _ _ (.bool true) zp)
          have TV : Touch (· = w.heap.size + 2) wr (((wr.setCell ⟨w.heap.size + 2, 1, none⟩ (.bool true)).setCell ⟨w.heap.size + 2, 2, none⟩ (.string ⟨k.toArray⟩)).drew) :=
            ((Touch.setCell (S := (· = w.heap.size + 2)) wr ⟨w.heap.size + 2, 1, none⟩ _ rfl).trans (Touch.setCell (S := (· = w.heap.size + 2)) _ ⟨w.heap.size + 2, 2, none⟩ _ rfl)).trans (Touch.drewN _ 1)
          generalize (((wr.setCell ⟨w.heap.size + 2, 1, none⟩ (.bool true)).setCell ⟨w.heap.size + 2, 2, none⟩ (.string ⟨k.toArray⟩)).drew) = V at hv2 TV ⊢
          have hBV : Below w.heap.size w V := Hps.out.bel.trans (TV.below (B := w.heap.size) (by rintro i rfl; omega) hpsize)
          have hget : Calls Tryz.prog 18 #[.pointer (some ⟨p, 0, none⟩), .string ⟨k.toArray⟩] V fun e w' => e = .returned (.tuple #[.string ⟨(valOf m k).toArray⟩, .bool (m.lookup k).isSome]) ∧ V = w' := tget_any p b m ⟨k.toArray⟩ V (HT.out.old hBV) (by show k.toArray.size = 16; rw [List.size_toArray, hk16])
          have hcrV := TV.heap hps.cr (by omega)
          obtain ⟨u0, u1, u2, u3⟩ := four_of_cells hv2
          have fu3 := frozen_of_row _ _ 3 _ _ hv2
          obtain ⟨t0, t1, t2, t3⟩ := four_of_cells hcrV
          have gr0 := frozen_of_row _ _ 0 _ _ hcrV
          have gr1 := frozen_of_row _ _ 1 _ _ hcrV
          have gr2 := frozen_of_row _ _ 2 _ _ hcrV
          have gr3 := frozen_of_row _ _ 3 _ _ hcrV
          have hv3 := heap_setCell_same V (w.heap.size + 2) 3 _ _ (.string ⟨(valOf m k).toArray⟩) hv2
          have T3 : Touch (· = w.heap.size + 2) V (V.setCell ⟨w.heap.size + 2, 3, none⟩ (.string ⟨(valOf m k).toArray⟩)) := Touch.setCell (S := (· = w.heap.size + 2)) V ⟨w.heap.size + 2, 3, none⟩ _ rfl
          have hcr3 := T3.heap hcrV (by omega)
          have fin4 := heap_setCell_same _ (w.heap.size + 1) 3 _ _ (.string ⟨(valOf m k).toArray⟩) (heap_setCell_same _ (w.heap.size + 1) 2 _ _ (.string ⟨k.toArray⟩) (heap_setCell_same _ (w.heap.size + 1) 1 _ _ (.bool true) (heap_setCell_same _ (w.heap.size + 1) 0 _ _ (.slice va n vc) hcr3)))
          have T4 : Touch (· = w.heap.size + 1) (V.setCell ⟨w.heap.size + 2, 3, none⟩ (.string ⟨(valOf m k).toArray⟩)) (((((V.setCell ⟨w.heap.size + 2, 3, none⟩ (.string ⟨(valOf m k).toArray⟩)).setCell ⟨w.heap.size + 1, 0, none⟩ (.slice va n vc)).setCell ⟨w.heap.size + 1, 1, none⟩ (.bool true)).setCell ⟨w.heap.size + 1, 2, none⟩ (.string ⟨k.toArray⟩)).setCell ⟨w.heap.size + 1, 3, none⟩ (.string ⟨(valOf m k).toArray⟩)) :=
            (((Touch.setCell (S := (· = w.heap.size + 1)) _ ⟨w.heap.size + 1, 0, none⟩ _ rfl).trans (Touch.setCell (S := (· = w.heap.size + 1)) _ ⟨w.heap.size + 1, 1, none⟩ _ rfl)).trans (Touch.setCell (S := (· = w.heap.size + 1)) _ ⟨w.heap.size + 1, 2, none⟩ _ rfl)).trans (Touch.setCell (S := (· = w.heap.size + 1)) _ ⟨w.heap.size + 1, 3, none⟩ _ rfl)
          have TA : Touch (fun i => i = w.heap.size + 1 ∨ i = w.heap.size + 2) wr (((((V.setCell ⟨w.heap.size + 2, 3, none⟩ (.string ⟨(valOf m k).toArray⟩)).setCell ⟨w.heap.size + 1, 0, none⟩ (.slice va n vc)).setCell ⟨w.heap.size + 1, 1, none⟩ (.bool true)).setCell ⟨w.heap.size + 1, 2, none⟩ (.string ⟨k.toArray⟩)).setCell ⟨w.heap.size + 1, 3, none⟩ (.string ⟨(valOf m k).toArray⟩)) :=
            ((TV.trans T3).mono (fun i h => .inl (.inr h))).trans (T4.mono (fun i h => .inl (.inl h)))
          have Fin4 := Lib.hid fin4
          have HTA := Lib.hid TA
          have Hrv := Lib.hid (And.intro hrv hlv)
          have Hmore := Lib.hid more
          have HU := Lib.hid hU
          clear fin4 T4 TA T3 TV hrv hlv more hU hown hnown h2 hbl hcr3 hv3 hcrV hv2 z0 z1 z2 z3 fz1 fz2 fz3 r0 r1 r2 r3 fr0 fr1 fr2 fr3 yq hc hcq hcg zp hps
          generalize hvk : valOf m k = vk at hget Fin4 HTA
          have Hvk := Lib.hid hvk
          clear hvk
          go_wp2_with fail
          refine hget.mono ?_
          rintro e5 w5 ⟨rfl, rfl⟩
          clear hget
          go_wp2_with fail
          have hrow4 := Fin4.out
          have hT4 := HTA.out
          generalize (((((V.setCell ⟨w.heap.size + 2, 3, none⟩ (.string ⟨vk.toArray⟩)).setCell ⟨w.heap.size + 1, 0, none⟩ (.slice va n vc)).setCell ⟨w.heap.size + 1, 1, none⟩ (.bool true)).setCell ⟨w.heap.size + 1, 2, none⟩ (.string ⟨k.toArray⟩)).setCell ⟨w.heap.size + 1, 3, none⟩ (.string ⟨vk.toArray⟩)) = V4 at hrow4 hT4 ⊢
          have hrow4 : V4.heap[w.heap.size + 1]? = some (.cells #[.slice va n vc, .bool true, .string ⟨k.toArray⟩, .string ⟨vk.toArray⟩] 51 (0, 0)) := hrow4
          obtain ⟨p0, p1, p2, p3⟩ := four_of_cells hrow4
          refine bodyPost_ret (v := .tuple #[.agg #[.slice va n vc, .bool true, .string ⟨k.toArray⟩, .string ⟨vk.toArray⟩], .int .i64 0]) ?_ rfl ⟨va, vc, ⟨hs.beside (valOf m) (keysOf m) key d n, true, k, vk⟩, n, ?_, ?_, ?_, ?_, ?_⟩
          · simp [results, Tryz.f19, go_sem, p0, p1, p2, p3]
          · dsimp only; rw [beside_length]
          · exact Hrv.out.1.touch hT4 (fun g o e => by have := Hrv.out.2 g o e; omega)
          · exact ⟨hkey, by omega, rfl, Hmore.out, .inr ⟨k, by rw [he]; exact HU.out, rfl, rfl, Hvk.out.symm⟩⟩
          · exact Hps.out.bel.trans (hT4.below (B := w.heap.size) (by rintro i (rfl | rfl) <;> omega) hpsize)
          · intro g o e; have := Hrv.out.2 g o e; omega

end Go.Proofs.YtcgkomafaepjnaaGreatDoor
namespace Go.Proofs.YtcgkomafaepjnaaGreatDoor
open Go.RowKit Go.Shelf

attribute [local go_sem] Oper.semAt_some

/-- Only the box B and what lies at or behind n₀ may turn. -/
abbrev KpT (B n₀ : Nat) (X Y : World) : Prop := Touch (fun k => k = B ∨ n₀ ≤ k) X Y
theorem kpT_t {B n₀ : Nat} {X Y Z : World} (h : KpT B n₀ X Y) (k : KpT B n₀ Y Z) : KpT B n₀ X Z := h.trans k
theorem kpT_b {B n₀ : Nat} {w : World} (hn : n₀ ≤ w.heap.size) (W : World) (l : Nat) (o o' : Obj) (hl : w.heap.size ≤ l) (_ : W.heap[l]? = some o) (_ : o.isCells = false) (_ : o.isWalk = false) : KpT B n₀ W (W.putObj l o') :=
  (Touch.grown (grownBy_putObj' W l o')).mono (fun k hk => .inl (.inr (by injection hk with hk; omega)))
theorem KpT.cell {B n₀ : Nat} {X Y : World} (h : KpT B n₀ X Y) {b o : Nat} {v : Value} (hb : b < n₀) (hne : b ≠ B) (hc : X.cell? ⟨b, o, none⟩ = some v) : Y.cell? ⟨b, o, none⟩ = some v := by
  rw [World.cell?_of_block (w := X) (w' := Y) (a := ⟨b, o, none⟩) (h.block b (World.block_lt_of_cell? X _ hc) (by rintro (e | e) <;> omega))]; exact hc

/-- What comes: an index, a text. -/
abbrev Item := { q : Nat × Tx // q.1 < 128 ∧ q.2.length ≤ 1000 }
def encI (x : Item) : Array Value := #[.int .i64 (x.1.1 : Int), .string ⟨x.1.2.toArray⟩]
def uptoI {α : Type} (f : Nat → α) (k : Nat) : List α := (List.range k).map f
theorem uptoI_succ {α : Type} (f : Nat → α) (k : Nat) : uptoI f (k + 1) = uptoI f k ++ [f k] := by simp [uptoI, List.range_succ]
theorem uptoI_length {α : Type} (f : Nat → α) (k : Nat) : (uptoI f k).length = k := by simp [uptoI]
/-- Backward: the j-th that comes. -/
def backItem (bs : List Tx) (h : bs.length ≤ 128 ∧ ∀ s ∈ bs, s.length ≤ 1000) (j : Nat) : Item :=
  ⟨(bs.length - 1 - j, bs.getD (bs.length - 1 - j) []), by
    refine ⟨by have := h.1; show bs.length - 1 - j < 128; omega, ?_⟩
    show (bs.getD (bs.length - 1 - j) []).length ≤ 1000
    rw [List.getD_eq_getElem?_getD]
    cases hg : bs[bs.length - 1 - j]? with
    | none => simp
    | some s => exact h.2 s (List.mem_of_getElem? hg)⟩

set_option maxRecDepth 100000 in
set_option maxHeartbeats 2000000 in
theorem backs1_in (F : Fence) (n : Nat) (h7 : F.fn 194) (hro : F.round = none) (hn : 1 ≤ n) (l Bs B5 n₀ len cap : Nat) (a : Option Addr) (bs : List Tx) (hbs : bs.length ≤ 128 ∧ ∀ s ∈ bs, s.length ≤ 1000) (hlen : bs.length = len) (hBsn : Bs < n₀) (hBs5 : Bs ≠ B5) (J Jx : List Item → World → Prop)
    (hY : ∀ pre x W, J pre W → pre.length < len → YieldAt F (n - 1) Tryz.prog l (encI x) W fun e W' =>
      (e = .returned (.bool true) ∧ J (pre ++ [x]) W' ∧ KpT B5 n₀ W W') ∨ (e = .returned (.bool false) ∧ Jx (pre ++ [x]) W'))
    (W : World) (hBs : W.cell? ⟨Bs, 0, none⟩ = some (.slice a len cap))
    (hc : ∀ j, j < len → ∃ g o, a = some ⟨g, o, none⟩ ∧ g < n₀ ∧ g ≠ B5 ∧ W.cell? ⟨g, o + j, none⟩ = some (.string ⟨(bs.getD j []).toArray⟩)) (h0 : J [] W) :
    CallsIn F n Tryz.prog 194 #[.func (.yield l) #[] #[], .pointer (some ⟨Bs, 0, none⟩)] W fun e W' => (∃ v, e = .returned v) ∧
      ((∃ ys, ys = uptoI (backItem bs hbs) len ∧ J ys W') ∨ (∃ pre, True ∧ Jx pre W')) := by
  have hl128 := hbs.1
  refine callsIn_of_wp Tryz.func194 rfl h7 ?_ hro
  simp only [Tryz.ntmps194, List.size_toArray, List.length_cons, List.length_nil, Nat.reduceAdd, Nat.reduceSub, Array.replicate_succ, Array.replicate_zero, List.push_toArray, List.append_toArray, List.nil_append, List.cons_append]
  gi_wp2
  gi_loopw [3] (fun i wr => ∃ k : Nat, k ≤ len ∧ i = .int .i64 ((len : Int) - 1 - k) ∧ J (uptoI (backItem bs hbs) k) wr ∧ KpT B5 n₀ W wr)
    (fun i _ => (intOf i + 1).toNat)
  case atStart => exact ⟨0, Nat.zero_le _, by simp, h0, Touch.refl _ _⟩
  case round =>
    obtain ⟨k, hk, rfl, hJs, hnx⟩ := hrel
    have hBx := hnx.cell hBsn hBs5 hBs
    by_cases hlt : k < len
    · obtain ⟨j, hj⟩ : ∃ j : Nat, (len : Int) - 1 - k = (j : Int) := ⟨len - 1 - k, by omega⟩
      have hjn : len - 1 - k = j := by omega
      obtain ⟨g, o, rfl, hg1, hg2, hcj⟩ := hc j (by omega)
      have hcx := hnx.cell hg1 hg2 hcj
      have hY1 := hY _ (backItem bs hbs k) wr hJs (by rw [uptoI_length]; exact hlt)
      have hk1 : Hid (k + 1 ≤ len) := Lib.hid (by omega)
      have hjl : (j : Int) < (len : Int) := by omega
      have hj0 : (0 : Int) ≤ (j : Int) := by omega
      have hsu := uptoI_succ (backItem bs hbs) k
      have eI : encI (backItem bs hbs k) = #[.int .i64 (j : Int), .string ⟨(bs.getD j []).toArray⟩] := by
        unfold encI backItem
        dsimp only
        rw [hlen, hjn]
      rw [eI, ← hsu] at hY1
      generalize bs.getD j [] = t at hcx hY1
      have hfin : Hid ((len : Int) - 1 - ((k + 1 : Nat) : Int) = (j : Int) - 1) := Lib.hid (by omega)
      generalize uptoI (backItem bs hbs) (k + 1) = up at hY1 hsu
      have hsu' := Lib.hid hsu
      have Hnx := Lib.hid hnx
      rw [hj]
      clear hcj hJs hY hc h0 hsu hj hjn eI hlt hk hnx
      obtain ⟨fn, tmps, assign, body, hy, hR⟩ := hY1
      gi_wp2
      refine hR.mono ?_
      rintro e W3 (⟨rfl, hJ3, hk3⟩ | ⟨rfl, hJx3⟩)
      · gi_wp2
        go_roundw
        case rel => exact ⟨k + 1, hk1.out, by rw [hfin.out], by rw [uptoI_succ, ← hsu'.out]; exact hJ3, Hnx.out.trans hk3⟩
        case measure => first | (simp [intOf]; done) | (simp [intOf]; omega)
      · gi_wp2
        refine bodyPost_ret (results_none rfl _ _ _) rfl ?_
        exact ⟨⟨_, rfl⟩, .inr ⟨_, trivial, hJx3⟩⟩
    · obtain rfl : k = len := by omega
      have e1 : (k : Int) - 1 - k = -1 := by omega
      rw [e1]
      gi_wp2
      go_end0
      exact ⟨⟨_, rfl⟩, .inl ⟨_, rfl, hJs⟩⟩

set_option maxHeartbeats 1000000 in
theorem backs_in (F : Fence) (n : Nat) (h5 : F.fn 153) (hro : F.round = none) (a : Option Addr) (len cap : Nat) (w : World) :
    CallsIn F n Tryz.prog 153 #[.slice a len cap] w fun e w' => e = .returned (.func (.func 194) #[] #[.pointer (some ⟨w.heap.size, 0, none⟩)]) ∧ w' = w.alloc (.cells #[.slice a len cap] 31) := by
  refine callsIn_of_wp Tryz.func153 rfl h5 ?_ hro
  simp only [Tryz.ntmps153, List.size_toArray, List.length_cons, List.length_nil, Nat.reduceAdd, Nat.reduceSub, Array.replicate_succ, Array.replicate_zero, List.push_toArray, List.append_toArray, List.nil_append, List.cons_append]
  gi_wp2
  go_ret
  exact ⟨rfl, rfl⟩

theorem backs_stops (F : Fence) (n : Nat) (h7 : F.fn 194) (hro : F.round = none) (hn : 1 ≤ n) (Bs B5 n₀ : Nat) (a : Option Addr) (cap len : Nat) (bs : List Tx) (hbs : bs.length ≤ 128 ∧ ∀ s ∈ bs, s.length ≤ 1000) (hlen : bs.length = len) (w : World)
    (hBsn : Bs < n₀) (hBs5 : Bs ≠ B5) (hn₀ : n₀ ≤ w.heap.size) (hcs : w.cell? ⟨Bs, 0, none⟩ = some (.slice a len cap)) (hr : Keyrow w a cap bs) (hg : 0 < len → ∀ g o, a = some ⟨g, o, none⟩ → g < n₀ ∧ g ≠ B5) :
    SeqStopsK F n Tryz.prog 194 #[.pointer (some ⟨Bs, 0, none⟩)] encI (KpT B5 n₀) (fun ys => ys = uptoI (backItem bs hbs) len) (fun _ => True) len w := fun l J Jx W hW _ _ hY h0 => by
  refine backs1_in F n h7 hro hn l Bs B5 n₀ len cap a bs hbs hlen hBsn hBs5 J Jx hY W ((hW.cell (p := ⟨Bs, 0, none⟩) (by show Bs < _; omega)).trans hcs) ?_ h0
  intro j hj
  obtain ⟨g, o, e, hgl, hc⟩ := hr.cell j (by omega)
  obtain ⟨h1, h2⟩ := hg (by omega) g o e
  exact ⟨g, o, e, h1, h2, (hW.cell (p := ⟨g, o + j, none⟩) hgl).trans hc⟩

end Go.Proofs.YtcgkomafaepjnaaGreatDoor
