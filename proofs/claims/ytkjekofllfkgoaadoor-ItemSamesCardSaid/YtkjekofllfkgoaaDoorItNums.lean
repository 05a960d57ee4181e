/- item.Nums: the numbers of a list, or the kind's error: its deferred closure recovers the panic of an assertion that fails. Conditions: a list of at most a million. -/
import Derived.Test.YtkjekofllfkgoaaDoorItMake
import Derived.Recover
import Derived.Laws.Pointers
import Derived.Deep.RegionHeld3
import Derived.Deep.RegionLaw
import Derived.Deep.AppendLies
namespace Go.Proofs.YtkjekofllfkgoaaDoor
open Go.RowKit

/-- What a failing assertion lays: the error's own block. -/
def failed (i c T : Value) : Obj := .cells #[i, c, T, strVal ""] 126
theorem run_assert_fail {T : TypeId} (h : Plain Tryd.prog T) {t : TypeId} (ht : t ≠ T) (v : Value) (w : World) :
    (Instr.typeAssert (.iface t v) 24 T false).run Tryd.prog w = .halt (.panic (.iface 15 (.pointer (some ⟨w.heap.size, 0, none⟩)))) (w.alloc (failed (typeHandle Tryd.prog 24) (typeHandle Tryd.prog t) (typeHandle Tryd.prog T))) := by
  rcases h with h | h | ⟨e, h⟩ <;> simp [Instr.typeAssert, run_underlying h, go_sem, ht, runtimePanic, elemOf, run_underlying Tryd.underlying15, failed]
theorem run_assert_failnil {T : TypeId} (h : Plain Tryd.prog T) (w : World) :
    (Instr.typeAssert .nilIface 24 T false).run Tryd.prog w = .halt (.panic (.iface 15 (.pointer (some ⟨w.heap.size, 0, none⟩)))) (w.alloc (failed (typeHandle Tryd.prog 24) (.pointer none) (typeHandle Tryd.prog T))) := by
  rcases h with h | h | ⟨e, h⟩ <;> simp [Instr.typeAssert, run_underlying h, go_sem, runtimePanic, elemOf, run_underlying Tryd.underlying15, failed]
theorem run_assert_pass {P : Program} {T xT : TypeId} (h : Plain P T) (v : Value) (w : World) : (Instr.typeAssert (.iface T v) xT T false).run P w = .ok v w := by
  rcases h with h | h | ⟨e, h⟩ <;> simp [Instr.typeAssert, run_underlying h, go_sem, Result.andThen]

/-- The deferred closure, the frame below panicking. -/
theorem numsCatch (p q : Addr) (x : Value) (y : Int) (u : TypeId) (pv : Value) (older : List PanicEntry) (w : World) (hp : w.cell? p = some x) (hq : w.cell? q = some (.int .i64 y)) (fp : w.frozen? p = false) (fq : w.frozen? q = false) (hne : p ≠ q) :
    CallsD Tryd.prog 35 #[.pointer (some p), .pointer (some q)] (.panicking ({ v := .iface u pv, recovered := false } :: older)) w fun e u' w' =>
      e = .returned (.tuple #[]) ∧ u' = .panicking ({ v := .iface u pv, recovered := true } :: older) ∧ w' = (w.setCell p (.slice none 0 0)).setCell q (.int .i64 6) := by
  have hq2 : (w.setCell p (.slice none 0 0)).cell? q = some (.int .i64 y) := by rw [World.cell?_setCell_other _ _ _ _ hne]; exact hq
  refine callsD_of_wpS Tryd.func35 rfl fun c₀ cs hu => ?_
  apply wpS_seq
  apply wpS_region
  simp [wpOpsS, go_sem, recoverD, hu, Tryd.ntmps35, Exit.thenS]
  refine wpS_cond (t := true) (by simp [Act.eval, Array.replicate]) ?_
  simp only [if_true]
  apply wpS_region
  simp [wpOpsS, go_sem, hp, hq2, fp, fq, bodyPostS, results, Tryd.results35]

/-- A panic of an assertion at the door: recovered. -/
theorem nums_door (w W : World) (R : Ending → World → Prop) (hR : ∀ w', Below w.heap.size w w' → R (.returned (.tuple #[.slice none 0 0, .int .i64 6])) w') (x : Value) (hp : W.cell? ⟨w.heap.size, 0, none⟩ = some x) (hq : W.cell? ⟨w.heap.size + 1, 0, none⟩ = some (.int .i64 0)) (fp : W.frozen? ⟨w.heap.size, 0, none⟩ = false) (fq : W.frozen? ⟨w.heap.size + 1, 0, none⟩ = false) (hb : Below w.heap.size w W) (u : TypeId) (pv : Value) (tmps : Array Value) (h2 : tmps[2]? = some (.pointer (some ⟨w.heap.size, 0, none⟩))) (h3 : tmps[3]? = some (.pointer (some ⟨w.heap.size + 1, 0, none⟩))) :
    bodyPostD Tryd.prog Tryd.f19 R (Exit.panic [{ v := .iface u pv, recovered := false }])
      { tmps := tmps, defers := [{ target := Target.fn (Fn.func 35) #[.pointer (some ⟨w.heap.size, 0, none⟩), .pointer (some ⟨w.heap.size + 1, 0, none⟩)], args := #[] }] } W := by
  refine leaves_cons (f := 35) (args := #[.pointer (some ⟨w.heap.size, 0, none⟩), .pointer (some ⟨w.heap.size + 1, 0, none⟩)]) (by simp) (by simp [go_sem]) ?_
  refine (numsCatch ⟨w.heap.size, 0, none⟩ ⟨w.heap.size + 1, 0, none⟩ x 0 u pv [] W hp hq fp fq (by intro e; injection e with e; omega)).mono ?_
  rintro e u' w'' ⟨rfl, rfl, rfl⟩
  have b2 : Below w.heap.size w ((W.setCell ⟨w.heap.size, 0, none⟩ (.slice none 0 0)).setCell ⟨w.heap.size + 1, 0, none⟩ (.int .i64 6)) := (hb.setCell (Nat.le_refl _) _).setCell (Nat.le_succ _) _
  have hpq : (⟨w.heap.size, 0, none⟩ : Addr) ≠ ⟨w.heap.size + 1, 0, none⟩ := by intro e; injection e with e; omega
  have r1 : ((W.setCell ⟨w.heap.size, 0, none⟩ (.slice none 0 0)).setCell ⟨w.heap.size + 1, 0, none⟩ (.int .i64 6)).cell? ⟨w.heap.size, 0, none⟩ = some (.slice none 0 0) := by
    rw [World.cell?_setCell_other _ _ _ _ hpq.symm, World.cell?_setCell_same _ _ _ (by rw [hp])]
  have r2 : ((W.setCell ⟨w.heap.size, 0, none⟩ (.slice none 0 0)).setCell ⟨w.heap.size + 1, 0, none⟩ (.int .i64 6)).cell? ⟨w.heap.size + 1, 0, none⟩ = some (.int .i64 6) := by
    rw [World.cell?_setCell_same _ _ _ (by rw [World.cell?_setCell_other _ _ _ _ hpq, hq])]
  generalize ((W.setCell ⟨w.heap.size, 0, none⟩ (.slice none 0 0)).setCell ⟨w.heap.size + 1, 0, none⟩ (.int .i64 6)) = W2 at b2 r1 r2 ⊢
  simp [Leaves, settle, results, Tryd.results19, go_sem, h2, h3, r1, r2]
  exact hR _ b2

/-- The deferred closure, nothing below panicking: it does nothing. -/
theorem numsIdle (p q : Addr) (w : World) :
    CallsD Tryd.prog 35 #[.pointer (some p), .pointer (some q)] .returning w fun e u' w' => e = .returned (.tuple #[]) ∧ u' = .returning ∧ w' = w := by
  refine callsD_of_wpS Tryd.func35 rfl fun c₀ cs hu => ?_
  apply wpS_seq
  apply wpS_region
  simp [wpOpsS, go_sem, recoverD, hu, Tryd.ntmps35, Exit.thenS]
  refine wpS_cond (t := false) (by simp [Act.eval, Array.replicate]) ?_
  simp only [Bool.false_eq_true, if_false]
  refine wpS_of_wp (wp_skip ?_)
  cases c₀
  simp_all [bodyPostS, results, Tryd.results35]

/-- The door where nothing panics. -/
theorem nums_out (w wr : World) (out : Value) (y : Int) (x : Value) (R : Ending → World → Prop) (hR : R (.returned (.tuple #[out, .int .i64 0])) ((wr.setCell ⟨w.heap.size, 0, none⟩ out).setCell ⟨w.heap.size + 1, 0, none⟩ (.int .i64 0))) (hp : wr.cell? ⟨w.heap.size, 0, none⟩ = some x) (hq : wr.cell? ⟨w.heap.size + 1, 0, none⟩ = some (.int .i64 y)) (tmps : Array Value) (h2 : tmps[2]? = some (.pointer (some ⟨w.heap.size, 0, none⟩))) (h3 : tmps[3]? = some (.pointer (some ⟨w.heap.size + 1, 0, none⟩))) :
    bodyPostD Tryd.prog Tryd.f19 R Exit.ret
      { tmps := tmps, defers := [{ target := Target.fn (Fn.func 35) #[.pointer (some ⟨w.heap.size, 0, none⟩), .pointer (some ⟨w.heap.size + 1, 0, none⟩)], args := #[] }] } ((wr.setCell ⟨w.heap.size, 0, none⟩ out).setCell ⟨w.heap.size + 1, 0, none⟩ (.int .i64 0)) := by
  have hpq : (⟨w.heap.size, 0, none⟩ : Addr) ≠ ⟨w.heap.size + 1, 0, none⟩ := by intro e; injection e with e; omega
  have r1 : ((wr.setCell ⟨w.heap.size, 0, none⟩ out).setCell ⟨w.heap.size + 1, 0, none⟩ (.int .i64 0)).cell? ⟨w.heap.size, 0, none⟩ = some out := by
    rw [World.cell?_setCell_other _ _ _ _ hpq.symm, World.cell?_setCell_same _ _ _ (by rw [hp])]
  have r2 : ((wr.setCell ⟨w.heap.size, 0, none⟩ out).setCell ⟨w.heap.size + 1, 0, none⟩ (.int .i64 0)).cell? ⟨w.heap.size + 1, 0, none⟩ = some (.int .i64 0) := by
    rw [World.cell?_setCell_same _ _ _ (by rw [World.cell?_setCell_other _ _ _ _ hpq, hq])]
  generalize ((wr.setCell ⟨w.heap.size, 0, none⟩ out).setCell ⟨w.heap.size + 1, 0, none⟩ (.int .i64 0)) = W at r1 r2 hR ⊢
  refine leaves_cons (f := 35) (args := #[.pointer (some ⟨w.heap.size, 0, none⟩), .pointer (some ⟨w.heap.size + 1, 0, none⟩)]) (by simp) (by simp [go_sem]) ?_
  refine (numsIdle ⟨w.heap.size, 0, none⟩ ⟨w.heap.size + 1, 0, none⟩ W).mono ?_
  rintro e u' w'' ⟨rfl, rfl, rfl⟩
  simp [Leaves, settle, results, Tryd.results19, go_sem, h2, h3, r1, r2]
  exact hR

set_option maxRecDepth 100000 in
theorem nums_leaf (T : TypeId) (u : Value) (w : World) (hT : T ≠ 85) :
    Calls Tryd.prog 19 #[.iface T u] w fun e w' => e = .returned (.tuple #[.slice none 0 0, .int .i64 6]) ∧ Below w.heap.size w w' := by
  have hmf : ∀ (fn : Fn) (first cap : Array Value) (w : World), (Instr.makeFunc fn first cap).run Tryd.prog w = .ok (.func fn first cap) w := fun _ _ _ _ => rfl
  have hfl := run_assert_fail plainList hT u
  go_enter_defers Tryd.func19, Tryd.ntmps19
  go_wp2
  refine nums_door w _ _ (fun w' hb => ⟨rfl, hb⟩) (.slice none 0 0) ?_ ?_ ?_ ?_ ?_ _ _ _ rfl rfl
  · simp [go_sem]
  · simp [go_sem]
  · simp [go_sem]
  · simp [go_sem]
  · exact ((((Below.refl _ _).alloc (Nat.le_refl _) _).alloc (by simp) _)).alloc (by simp; omega) _

theorem nums_nil (w : World) :
    Calls Tryd.prog 19 #[.nilIface] w fun e w' => e = .returned (.tuple #[.slice none 0 0, .int .i64 6]) ∧ Below w.heap.size w w' := by
  have hmf : ∀ (fn : Fn) (first cap : Array Value) (w : World), (Instr.makeFunc fn first cap).run Tryd.prog w = .ok (.func fn first cap) w := fun _ _ _ _ => rfl
  have hfl := run_assert_failnil plainList
  go_enter_defers Tryd.func19, Tryd.ntmps19
  go_wp2
  refine nums_door w _ _ (fun w' hb => ⟨rfl, hb⟩) (.slice none 0 0) ?_ ?_ ?_ ?_ ?_ _ _ _ rfl rfl
  · simp [go_sem]
  · simp [go_sem]
  · simp [go_sem]
  · simp [go_sem]
  · exact ((((Below.refl _ _).alloc (Nat.le_refl _) _).alloc (by simp) _)).alloc (by simp; omega) _

theorem Tryd.infoI64 : (Tryd.prog.info? 2).map (fun i => (i.zero, i.size, i.bytes)) = some (some (.int .i64 0), 1, 8) := by kernel_rfl

/-- What is known at the head of Nums's loop. -/
structure NumsRel (w W : World) (zs : List Int) (k : Nat) (out : Value) : Prop where
  p : W.cell? ⟨w.heap.size, 0, none⟩ = some out
  q : W.cell? ⟨w.heap.size + 1, 0, none⟩ = some (.int .i64 0)
  fp : W.frozen? ⟨w.heap.size, 0, none⟩ = false
  fq : W.frozen? ⟨w.heap.size + 1, 0, none⟩ = false
  own : W.ownsRow (w.heap.size + 2) 2 1 out k (ints (zs.take k))
  below : Below w.heap.size w W
  size : w.heap.size + 2 ≤ W.heap.size

theorem NumsRel.drew {w W : World} {zs : List Int} {k : Nat} {out : Value} (h : NumsRel w W zs k out) : NumsRel w W.drew zs k out :=
  ⟨h.p, h.q, h.fp, h.fq, (Touch.drewN (S := fun _ => False) W 1).own h.own (fun _ _ h => h), h.below.trans ⟨rfl, rfl, rfl, Nat.le_refl _, fun _ _ => rfl⟩, h.size⟩

/-- A panic in the loop, at the door. -/
theorem NumsRel.door {w wr : World} {zs : List Int} {k : Nat} {out : Value} (h : NumsRel w wr zs k out) (R : Ending → World → Prop) (hR : ∀ w', Below w.heap.size w w' → R (.returned (.tuple #[.slice none 0 0, .int .i64 6])) w') (cs : Array Value) (t u : TypeId) (pv : Value) (tmps : Array Value) (h2 : tmps[2]? = some (.pointer (some ⟨w.heap.size, 0, none⟩))) (h3 : tmps[3]? = some (.pointer (some ⟨w.heap.size + 1, 0, none⟩))) :
    bodyPostD Tryd.prog Tryd.f19 R (Exit.panic [{ v := .iface u pv, recovered := false }])
      { tmps := tmps, defers := [{ target := Target.fn (Fn.func 35) #[.pointer (some ⟨w.heap.size, 0, none⟩), .pointer (some ⟨w.heap.size + 1, 0, none⟩)], args := #[] }] } (wr.alloc (.cells cs t)).drew := by
  have hs := h.size
  have blk : ∀ j, j < wr.heap.size → (wr.alloc (.cells cs t)).drew.heap[j]? = wr.heap[j]? := fun j hj => Below.heap_alloc wr _ _ hj
  have hb : Below w.heap.size w (wr.alloc (.cells cs t)).drew := (h.below.alloc (by omega) _).trans ⟨rfl, rfl, rfl, Nat.le_refl _, fun _ _ => rfl⟩
  refine nums_door w _ R hR out ?_ ?_ ?_ ?_ hb u pv tmps h2 h3
  · rw [World.cell?_of_block (w := wr) (a := ⟨w.heap.size, 0, none⟩) (blk w.heap.size (by omega))]; exact h.p
  · rw [World.cell?_of_block (w := wr) (a := ⟨w.heap.size + 1, 0, none⟩) (blk (w.heap.size + 1) (by omega))]; exact h.q
  · rw [World.frozen?_of_block (w := wr) (a := ⟨w.heap.size, 0, none⟩) (blk w.heap.size (by omega))]; exact h.fp
  · rw [World.frozen?_of_block (w := wr) (a := ⟨w.heap.size + 1, 0, none⟩) (blk (w.heap.size + 1) (by omega))]; exact h.fq

theorem NumsRel.step {w wr w2 : World} {zs : List Int} {k g c : Nat} {z : Int} {out : Value} (h : NumsRel w wr zs k out) (hz : zs.take (k + 1) = zs.take k ++ [z])
    (ho : w2.ownsRow (w.heap.size + 2) 2 1 (.slice (some ⟨g, 0, none⟩) (k + 1) c) (k + 1) (ints (zs.take k) ++ [.int .i64 z])) (hg : (wr.alloc (.cells #[.int .i64 z] 2)).drew.grownBy w2 out.ownBlock) :
    NumsRel w (w2.setCell ⟨w.heap.size, 0, none⟩ (.slice (some ⟨g, 0, none⟩) (k + 1) c)) zs (k + 1) (.slice (some ⟨g, 0, none⟩) (k + 1) c) := by
  have hs := h.size
  have olt : ∀ j, out.ownBlock = some j → w.heap.size + 2 ≤ j := fun j hj => (h.own.lt j hj).1
  have n1 : some w.heap.size ≠ out.ownBlock := fun e => by have := olt _ e.symm; omega
  have n2 : some (w.heap.size + 1) ≠ out.ownBlock := fun e => by have := olt _ e.symm; omega
  have hne : (⟨w.heap.size, 0, none⟩ : Addr) ≠ ⟨w.heap.size + 1, 0, none⟩ := by intro e; injection e with e; omega
  have blk : ∀ j, j < wr.heap.size → some j ≠ out.ownBlock → w2.heap[j]? = wr.heap[j]? := fun j hj hn =>
    (hg.block j (by simp; omega) hn).trans (Below.heap_alloc wr _ _ hj)
  have hs2 := hg.size
  have hs2 : wr.heap.size + 1 ≤ w2.heap.size := by simpa using hs2
  refine ⟨?_, ?_, ?_, ?_, ?_, ?_, ?_⟩
  · exact World.cell?_setCell_same _ _ _ (by rw [World.cell?_of_block (w := wr) (w' := w2) (a := ⟨w.heap.size, 0, none⟩) (blk w.heap.size (by omega) n1), h.p])
  · rw [World.cell?_setCell_other _ _ _ _ hne, World.cell?_of_block (w := wr) (w' := w2) (a := ⟨w.heap.size + 1, 0, none⟩) (blk (w.heap.size + 1) (by omega) n2)]; exact h.q
  · simp only [World.frozen?_setCell]; rw [World.frozen?_of_block (w := wr) (w' := w2) (a := ⟨w.heap.size, 0, none⟩) (blk w.heap.size (by omega) n1)]; exact h.fp
  · simp only [World.frozen?_setCell]; rw [World.frozen?_of_block (w := wr) (w' := w2) (a := ⟨w.heap.size + 1, 0, none⟩) (blk (w.heap.size + 1) (by omega) n2)]; exact h.fq
  · rw [hz, ints_snoc]
    exact (Touch.setCell (S := (· = w.heap.size)) w2 ⟨w.heap.size, 0, none⟩ _ rfl).own ho (fun j hj e => by have := (ho.lt j hj).1; omega)
  · have b1 : Below w.heap.size w (wr.alloc (.cells #[.int .i64 z] 2)).drew := (h.below.alloc (by omega) _).trans ⟨rfl, rfl, rfl, Nat.le_refl _, fun _ _ => rfl⟩
    exact (b1.grown hg (by simp; omega) (fun j hj => by have := olt j hj; omega)).setCell (Nat.le_refl _) _
  · simp [World.setCell]; omega

set_option maxRecDepth 100000 in
set_option maxHeartbeats 2000000 in
theorem nums_list (a : Option Addr) (cap m : Nat) (zs : List Int) (bad : List ByteArray) (w : World) (ok : Nat → Prop) (hbad : bad.length ≤ 1) (hm : m = zs.length + bad.length) (hi : Itm w ok (.iface 85 (.slice a m cap)) (.list (zs.map .num ++ bad.map .text))) :
    Calls Tryd.prog 19 #[.iface 85 (.slice a m cap)] w fun e w' => Below w.heap.size w w' ∧ if bad = [] then ∃ out, e = .returned (.tuple #[out, .int .i64 0]) ∧ w'.ownsRow w.heap.size 2 1 out zs.length (ints zs) else e = .returned (.tuple #[.slice none 0 0, .int .i64 6]) := by
  have hmf : ∀ (fn : Fn) (first cap : Array Value) (w : World), (Instr.makeFunc fn first cap).run Tryd.prog w = .ok (.func fn first cap) w := fun _ _ _ _ => rfl
  have h1 := run_assert_pass (P := Tryd.prog) (xT := 24) plainList (.slice a m cap)
  rw [Itm.list_eq] at hi
  obtain ⟨a', cap', xs, hv, hlen, hmax, ha, hx⟩ := hi
  injection hv with _ hv
  injection hv with e1 e2 e3
  subst e1 e3
  simp only [List.length_append, List.length_map] at hlen hmax
  have HM := Lib.hid hm
  have HA := Lib.hid ha
  have HX := Lib.hid hx
  have Hlen := Lib.hid hlen
  have hzm : zs.length ≤ m := by omega
  have hm2 : m ≤ 1000000 := by omega
  have HB := Lib.hid hbad
  clear ha hx hlen e2 hm hmax hbad
  go_enter_defers Tryd.func19, Tryd.ntmps19
  go_wp2
  clear h1 hmf
  go_loopw [10] (fun i W => ∃ (k : Nat) (out : Value), k ≤ zs.length ∧ i = .int .i64 k ∧ NumsRel w W zs k out) (fun i _ => m - (intOf i).toNat)
  case atStart =>
    refine ⟨0, .slice none 0 0, Nat.zero_le _, rfl, ?_, ?_, ?_, ?_, World.ownsRow_nil _ _ _ _, ?_, ?_⟩
    · simp [go_sem]
    · simp [go_sem]
    · simp [go_sem]
    · simp [go_sem]
    · exact (((Below.refl _ _).alloc (Nat.le_refl _) _).alloc (by simp) _)
    · simp
  case round =>
    obtain ⟨k, out, hk, rfl, hr⟩ := hrel
    by_cases hlt : k < zs.length
    · obtain ⟨z, hz, hzt⟩ : ∃ z, zs[k]? = some z ∧ zs.take (k + 1) = zs.take k ++ [z] := ⟨zs[k], List.getElem?_eq_getElem hlt, by rw [List.take_add_one, List.getElem?_eq_getElem hlt]; rfl⟩
      obtain ⟨b, T, u, t, rfl, hbw, _, ht, _, hc, hit⟩ := Itm.cell_at HX.out HA.out k (by simp; omega)
      rw [List.getElem?_append_left (by simpa using hlt), List.getElem?_map, hz] at ht
      simp only [Option.map_some, Option.some.injEq] at ht
      subst ht
      rw [Itm.num_eq] at hit
      injection hit with e1 e2
      subst e1 e2
      have hc : wr.cell? ⟨b, k, none⟩ = some (.iface 2 (.int .i64 z)) := (hr.below.cell (p := ⟨b, k, none⟩) hbw).trans hc
      have hcp := hr.p
      have h1 := run_assert_pass (P := Tryd.prog) (xT := 24) plainNum (.int .i64 z)
      have hkm : k < m := by omega
      have Hzt := Lib.hid hzt
      have Hz := Lib.hid hz
      clear hzt hz
      go_wp2_with fail
      obtain ⟨i0, hi0, hz0, hz1, hz2⟩ := info_parts Tryd.infoI64
      have hsz := hr.size
      have hown := Lib.hid hr.own
      have hfp := hr.fp
      have hlw : w.heap.size < wr.heap.size := by omega
      have hfz : (wr.alloc (.cells #[.int .i64 z] 2)).frozen? ⟨w.heap.size, 0, none⟩ = false := (World.frozen?_of_block (w := wr) (w' := wr.alloc (.cells #[.int .i64 z] 2)) (a := ⟨w.heap.size, 0, none⟩) (Below.heap_alloc wr _ _ hlw)).trans hfp
      have hcz : (wr.alloc (.cells #[.int .i64 z] 2)).cell? ⟨w.heap.size, 0, none⟩ = some out := (World.cell?_of_block (w := wr) (w' := wr.alloc (.cells #[.int .i64 z] 2)) (a := ⟨w.heap.size, 0, none⟩) (Below.heap_alloc wr _ _ hlw)).trans hcp
      have hpo : some w.heap.size ≠ out.ownBlock := fun e => by have := (hown.out.lt _ e.symm).1; omega
      refine wp_region_noPanic ?_
      go_region_law (refine step_append_lies _ (by rfl) _ _ _ (by rfl) (w.heap.size + 2) 2 i0 _ 1 8 Tryd.underlying46 hi0 hz0 hz1 hz2 rfl (by omega) out k _ (by rfl) ((hown.out.alloc _).drew) ⟨wr.heap.size, 0, none⟩ 1 1 [.int .i64 z] (by rfl) (by rfl) (World.news_of_block (cs := #[.int .i64 z]) (t := 2) (fr := (0, 0)) (heap_alloc_new wr _)) (by simp [Value.oneCell']) (by omega) (by unfold maxLen; omega) (by omega) (by simp; omega) (wr.heap.size + 1) (by simp) ?_; intro gg cap2 w2 ho2 hg2 hat hlt2; have hcp2 := (hg2.cell_far ⟨w.heap.size, 0, none⟩ (by simp; omega) hpo).trans hcz; have hfp2 := (hg2.frozen_far ⟨w.heap.size, 0, none⟩ (by simp; omega) hpo).trans hfz)
      all_goals
        refine NoPanic.normal ?_
        have hr' := hr.step (z := z) Hzt.out ho2 hg2
        clear ho2 hg2 hcp2 hfp2 h1 hcz hfz
        go_wp2
        go_roundw
        case rel => exact ⟨k + 1, _, by omega, by go_num, hr'⟩
        case measure => simp [intOf]; omega
    · obtain rfl : k = zs.length := by omega
      cases bad with
      | nil =>
        obtain rfl : m = zs.length := by have := HM.out; simpa using this
        have hcp := hr.p
        have hcq := hr.q
        have hfp := hr.fp
        have hfq := hr.fq
        have hown := hr.own
        rw [List.take_length] at hown
        obtain ⟨ao, co, rfl⟩ := own_shape hown
        have Hown := Lib.hid hown
        have Hb := Lib.hid hr.below
        have hsz := hr.size
        clear hown
        go_wp2
        refine nums_out w wr (.slice ao zs.length co) 0 _ _ ?_ hcp hcq _ rfl rfl
        refine ⟨(Hb.out.setCell (Nat.le_refl _) _).setCell (Nat.le_succ _) _, _, rfl, ?_⟩
        have t1 := (Touch.setCell (S := (· = w.heap.size)) wr ⟨w.heap.size, 0, none⟩ (.slice ao zs.length co) rfl).own Hown.out (fun j hj e => by have := (Hown.out.lt j hj).1; omega)
        have t2 := (Touch.setCell (S := (· = w.heap.size + 1)) (wr.setCell ⟨w.heap.size, 0, none⟩ (.slice ao zs.length co)) ⟨w.heap.size + 1, 0, none⟩ (.int .i64 0) rfl).own t1 (fun j hj e => by have := (t1.lt j hj).1; omega)
        refine ⟨t2.1, t2.2.imp id ?_⟩
        rintro ⟨g, c1, cur, e1, hg, r⟩
        exact ⟨g, c1, cur, e1, by omega, r⟩
      | cons s bad =>
        obtain rfl : bad = [] := (by have := HB.out; simpa using this)
        obtain ⟨b, T, u, t, rfl, hbw, _, ht, _, hc, hit⟩ := Itm.cell_at HX.out HA.out zs.length (by simp)
        rw [List.getElem?_append_right (by simp)] at ht
        simp only [List.length_map, Nat.sub_self, List.map_cons, List.map_nil, List.getElem?_cons_zero, Option.some.injEq] at ht
        subst ht
        rw [Itm.text_eq] at hit
        injection hit with e1 e2
        subst e1 e2
        have hc : wr.cell? ⟨b, zs.length, none⟩ = some (.iface 9 (.string s)) := (hr.below.cell (p := ⟨b, zs.length, none⟩) hbw).trans hc
        have hcp := hr.p
        have hfl := run_assert_fail plainNum (t := 9) (by decide) (.string s)
        have hkm : zs.length < m := by have := HM.out; simp at this; omega
        go_wp2_with fail
        refine wp_region_any (by kernel_rfl) ?_
        change wpAny _ _ _ _ _ _ _ (World.drew _)
        refine wpAny_ready (rs := [0, 1]) (by kernel_rfl) (by simp) ?_
        refine AllReady.cons rfl (fun K hK => ?_) ?_
        · go_simp
          refine hK _ _ ?_
          clear hK K
          refine wpAny_ready (rs := [1]) (by kernel_rfl) (by simp) ?_
          refine AllReady.cons rfl (fun K hK => ?_) AllReady.nil
          go_simp
          refine hK _ _ ?_
          clear hK K
          refine wpAny_ready (rs := [2]) (by kernel_rfl) (by simp) ?_
          refine AllReady.cons rfl (fun K hK => ?_) AllReady.nil
          go_simp
          clear hK K
          go_wp2
          exact hr.door _ (fun w' hb => ⟨hb, rfl⟩) _ _ _ _ _ rfl rfl
        · refine AllReady.cons rfl (fun K hK => ?_) AllReady.nil
          go_simp
          refine hK _ _ ?_
          clear hK K
          refine wpAny_ready (rs := [0, 2]) (by kernel_rfl) (by simp) ?_
          refine AllReady.cons rfl (fun K hK => ?_) ?_
          · go_simp
            refine hK _ _ ?_
            clear hK K
            refine wpAny_ready (rs := [2]) (by kernel_rfl) (by simp) ?_
            refine AllReady.cons rfl (fun K hK => ?_) AllReady.nil
            go_simp
            clear hK K
            go_wp2
            exact hr.door _ (fun w' hb => ⟨hb, rfl⟩) _ _ _ _ _ rfl rfl
          · refine AllReady.cons rfl (fun K hK => ?_) AllReady.nil
            go_simp
            clear hK K
            go_wp2
            exact hr.door _ (fun w' hb => ⟨hb, rfl⟩) _ _ _ _ _ rfl rfl

end Go.Proofs.YtkjekofllfkgoaaDoor
