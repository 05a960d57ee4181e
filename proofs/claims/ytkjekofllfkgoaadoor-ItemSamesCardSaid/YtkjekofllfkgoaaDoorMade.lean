/- plumboblaw04.made: the item and the nodes that it makes. Conditions: at most forty nodes, each as it came in. -/
import Derived.Test.YtkjekofllfkgoaaDoorMadePlain
import Derived.Test.YtkjekofllfkgoaaDoorItMake
import Derived.Deep.RegionWith
namespace Go.Proofs.YtkjekofllfkgoaaDoor
open Go.RowKit

/-- What made hands back. -/
def MadePost (t : IT) (k : Nat) (w : World) (e : Ending) (w' : World) : Prop :=
  ∃ v nv, e = .returned (.tuple #[v, nv, .int .i64 k]) ∧ Itm w' (w.heap.size ≤ ·) v t ∧ w'.ownsRow w.heap.size 58 4 nv t.cnt (nds t) ∧ Below w.heap.size w w'

theorem le_alloc (w : World) (o : Obj) : w.heap.size ≤ (w.alloc o).heap.size := by simp
theorem own_one (w : World) (xs : Array Value) (e : TypeId) (size : Nat) (B : Nat) (hB : B ≤ w.heap.size) (hs : xs.size = size) : (w.alloc (.cells xs e)).ownsRow B e size (.slice (some ⟨w.heap.size, 0, none⟩) 1 1) 1 xs.toList :=
  ⟨by simp [hs], .inr ⟨w.heap.size, 1, xs, rfl, hB, heap_alloc_new _ _, Nat.le_refl _, by decide, by rw [Nat.one_mul, hs], by rw [Nat.one_mul, ← hs]; exact List.take_of_length_le (by simp)⟩⟩

theorem own_two (w : World) (x : Obj) (xs : Array Value) (e : TypeId) (size : Nat) (hs : xs.size = size) : ((w.alloc x).alloc (.cells xs e)).ownsRow w.heap.size e size (.slice (some ⟨w.heap.size + 1, 0, none⟩) 1 1) 1 xs.toList := by
  rw [show w.heap.size + 1 = (w.alloc x).heap.size from by simp]
  exact own_one _ xs e size _ (le_alloc _ _) hs

theorem Tryd.cellsNode4 : Tryd.prog.cellsOf 64 = 3 := by kernel_rfl

set_option maxRecDepth 100000 in
set_option maxHeartbeats 1000000 in
theorem made_end (a : Option Addr) (len cap k : Nat) (d : Int) (w : World) (hk : len ≤ k) :
    Calls Tryd.prog 9 #[.slice a len cap, .int .i64 k, .int .i64 d] w (MadePost (.num 0) k w) := by
  have hle : decide ((len : Int) ≤ (k : Int)) = true := by simp; omega
  go_enter Tryd.func9, Tryd.ntmps9
  go_wp2_with fail
  refine (itNum_any 0 _).mono ?_
  rintro e w' ⟨rfl, rfl⟩
  go_wp2_with fail
  go_ret3
  refine ⟨_, _, rfl, Itm.num_eq.2 rfl, ?_, (Below.refl _ _).alloc (Nat.le_refl _) _⟩
  rw [IT.cnt, nds]
  exact own_one w #[.int .i64 1, .int .i64 0, .string ⟨#[]⟩, .int .i64 0] _ 4 _ (Nat.le_refl _) rfl

set_option maxRecDepth 100000 in
set_option maxHeartbeats 1000000 in
theorem made_leaf (a : Option Addr) (len cap k : Nat) (d : Nat) (l : List NdV) (x : NdV) (w : World) (hl : l.length = len) (hx : l[k]? = some x) (hN : NodesAt w (.slice a len cap) l) (h1 : x.kind % 4 = 1) (hk2 : k ≤ 1000) :
    Calls Tryd.prog 9 #[.slice a len cap, .int .i64 k, .int .i64 d] w (MadePost (.text (t30 x.text)) (k + 1) w) := by
  have hlt : k < len := by
    rw [← hl]
    rcases Nat.lt_or_ge k l.length with h | h
    · exact h
    · rw [List.getElem?_eq_none h] at hx; cases hx
  obtain ⟨a', cap', hv, _, hPk⟩ := hN
  injection hv with e1 e2 e3
  clear e2 e3
  subst e1
  obtain ⟨bb, off, rfl, hbb, hr⟩ := hPk k x hx
  have c0 := hr 0 _ rfl
  have c1 := hr 1 _ rfl
  have c2 := hr 2 _ rfl
  rw [Nat.add_zero] at c0
  clear hr hPk hx hl
  have hkd := kd_walk x.kind
  rw [h1] at hkd
  clear h1
  go_enter Tryd.func9, Tryd.ntmps9
  go_wp2_with fail
  refine (itText_any _ _).mono ?_
  rintro e w' ⟨rfl, rfl⟩
  go_wp2_with fail
  have ht : x.text.extract 0 (min (x.text.size : Int) 30).toNat = t30 x.text := by unfold t30; congr 1; omega
  go_ret3
  rw [← ht]
  refine ⟨_, _, rfl, Itm.text_eq.2 rfl, ?_, ((Below.refl _ _).alloc (Nat.le_refl _) _).alloc (le_alloc _ _) _⟩
  rw [IT.cnt, nds]
  exact own_two w _ #[.int .i64 2, .int .i64 0, .string _, .int .i64 0] _ 4 rfl

theorem num_below (w : World) (x : Obj) (y : Obj) : Below w.heap.size w ((w.alloc x).alloc y).drew :=
  (((Below.refl _ _).alloc (Nat.le_refl _) _).alloc (le_alloc _ _) _).trans ⟨rfl, rfl, rfl, Nat.le_refl _, fun _ _ => rfl⟩
theorem num_own (w : World) (x : Obj) (n : Int) : ((w.alloc x).alloc (.cells #[.int .i64 1, .int .i64 n, .string ⟨#[]⟩, .int .i64 0] 58)).drew.ownsRow w.heap.size 58 4 (.slice (some ⟨w.heap.size + 1, 0, none⟩) 1 1) 1 (ndRow 1 n ⟨#[]⟩ 0) :=
  own_two w x #[.int .i64 1, .int .i64 n, .string ⟨#[]⟩, .int .i64 0] _ 4 rfl

set_option maxRecDepth 100000 in
set_option maxHeartbeats 4000000 in
theorem made_num (a : Option Addr) (len cap k : Nat) (d : Nat) (l : List NdV) (x : NdV) (w : World) (hl : l.length = len) (hx : l[k]? = some x) (hN : NodesAt w (.slice a len cap) l) (h1 : x.kind % 4 ≠ 1) (h2 : x.kind % 4 = 2 → d < 2) (hk2 : k ≤ 1000) :
    Calls Tryd.prog 9 #[.slice a len cap, .int .i64 k, .int .i64 d] w (MadePost (.num x.n) (k + 1) w) := by
  have hlt : k < len := by
    rw [← hl]
    rcases Nat.lt_or_ge k l.length with h | h
    · exact h
    · rw [List.getElem?_eq_none h] at hx; cases hx
  obtain ⟨a', cap', hv, _, hPk⟩ := hN
  injection hv with e1 e2 e3
  clear e2 e3
  subst e1
  obtain ⟨bb, off, rfl, hbb, hr⟩ := hPk k x hx
  have c0 := hr 0 _ rfl
  have c1 := hr 1 _ rfl
  have c2 := hr 2 _ rfl
  rw [Nat.add_zero] at c0
  clear hr hPk hx hl
  have hkd := kd_walk x.kind
  have hb1 : (x.kind % 4 == 1) = false := beq_eq_false_iff_ne.2 h1
  by_cases h3 : x.kind % 4 = 2
  · have hb2 : decide ((d : Int) < 2) = true := by have := h2 h3; simp; omega
    rw [h3] at hkd
    clear h1 h2 h3 hb1
    go_enter Tryd.func9, Tryd.ntmps9
    go_wp2_with fail
    go_region_with (go_at_call 16; refine (itNum_any _ _).mono ?_; rintro e w' ⟨rfl, rfl⟩)
    all_goals
      go_wp2
      go_ret3
      refine ⟨_, _, rfl, Itm.num_eq.2 rfl, ?_, num_below w _ _⟩
      rw [IT.cnt, nds]
      exact num_own w _ _
  · have hb2 : (x.kind % 4 == 2) = false := beq_eq_false_iff_ne.2 h3
    clear h1 h2 h3
    go_enter Tryd.func9, Tryd.ntmps9
    go_wp2_with fail
    go_region_with (go_at_call 16; refine (itNum_any _ _).mono ?_; rintro e w' ⟨rfl, rfl⟩)
    all_goals
      go_wp2
      go_ret3
      refine ⟨_, _, rfl, Itm.num_eq.2 rfl, ?_, num_below w _ _⟩
      rw [IT.cnt, nds]
      exact num_own w _ _

end Go.Proofs.YtkjekofllfkgoaaDoor
