/- Items as trees, and what of memory an item's value reads; item.depth. Conditions: none of a program, for the trees; for depth: the tree is no deeper than a million. -/
import Derived.Test.YtkjekofllfkgoaaDoorRows
import Derived.Test.YtkjekofllfkgoaaDoorKit
import Derived.WalkLawsBesides
namespace Go.Proofs.YtkjekofllfkgoaaDoor
open Go.RowKit

/-- An item: a number, a text, a list. -/
inductive IT where
  | num (n : Int)
  | text (s : ByteArray)
  | list (l : List IT)

mutual
/-- The value v reads as the item, in blocks that are ok. -/
def Itm (w : World) (ok : Nat → Prop) : Value → IT → Prop
  | v, .num n => v = .iface 2 (.int .i64 n)
  | v, .text s => v = .iface 9 (.string s)
  | v, .list l => ∃ a cap xs, v = .iface 85 (.slice a l.length cap) ∧ xs.length = l.length ∧ l.length ≤ 1000000 ∧ (l ≠ [] → ∃ b, a = some ⟨b, 0, none⟩ ∧ b < w.heap.size ∧ ok b ∧ ∀ j x, xs[j]? = some x → w.cell? ⟨b, j, none⟩ = some x) ∧ ItmL w ok xs l
def ItmL (w : World) (ok : Nat → Prop) : List Value → List IT → Prop
  | _, [] => True
  | [], _ :: _ => False
  | x :: xs, t :: l => Itm w ok x t ∧ ItmL w ok xs l
end

theorem Itm.num_eq {w : World} {ok : Nat → Prop} {v : Value} {n : Int} : Itm w ok v (.num n) ↔ v = .iface 2 (.int .i64 n) := by rw [Itm]
theorem Itm.text_eq {w : World} {ok : Nat → Prop} {v : Value} {s : ByteArray} : Itm w ok v (.text s) ↔ v = .iface 9 (.string s) := by rw [Itm]
theorem Itm.list_eq {w : World} {ok : Nat → Prop} {v : Value} {l : List IT} : Itm w ok v (.list l) ↔ ∃ a cap xs, v = .iface 85 (.slice a l.length cap) ∧ xs.length = l.length ∧ l.length ≤ 1000000 ∧ (l ≠ [] → ∃ b, a = some ⟨b, 0, none⟩ ∧ b < w.heap.size ∧ ok b ∧ ∀ j x, xs[j]? = some x → w.cell? ⟨b, j, none⟩ = some x) ∧ ItmL w ok xs l := by rw [Itm]

theorem ItmL.at {w : World} {ok : Nat → Prop} : ∀ {xs : List Value} {l : List IT}, ItmL w ok xs l → ∀ (k : Nat) (t : IT), l[k]? = some t → ∃ x, xs[k]? = some x ∧ Itm w ok x t
  | _, [], _, k, t, h => by simp at h
  | [], _ :: _, h, _, _, _ => by rw [ItmL] at h; exact h.elim
  | x :: xs, t0 :: l, h, k, t, ht => by
    rw [ItmL] at h
    cases k with
    | zero => simp at ht; subst ht; exact ⟨x, rfl, h.1⟩
    | succ k => simp at ht; obtain ⟨y, hy, hi⟩ := ItmL.at h.2 k t ht; exact ⟨y, by simpa using hy, hi⟩

theorem ItmL.snoc {w : World} {ok : Nat → Prop} {x : Value} {t : IT} (hx : Itm w ok x t) : ∀ {xs : List Value} {l : List IT}, xs.length = l.length → ItmL w ok xs l → ItmL w ok (xs ++ [x]) (l ++ [t])
  | [], [], _, _ => by rw [List.nil_append, List.nil_append, ItmL]; exact ⟨hx, by rw [ItmL]; trivial⟩
  | [], _ :: _, h, _ => by simp at h
  | _ :: _, [], h, _ => by simp at h
  | y :: xs, t0 :: l, h, hl => by
    rw [ItmL] at hl
    rw [List.cons_append, List.cons_append, ItmL]
    exact ⟨hl.1, ItmL.snoc hx (by simpa using h) hl.2⟩

mutual
/-- What a step leaves alone reads as it did; the blocks may be told otherwise. -/
theorem Itm.carry {w w' : World} {ok ok' : Nat → Prop} (hsz : w.heap.size ≤ w'.heap.size) (hcell : ∀ b j, ok b → b < w.heap.size → w'.cell? ⟨b, j, none⟩ = w.cell? ⟨b, j, none⟩) (hok : ∀ b, ok b → b < w.heap.size → ok' b) : ∀ (t : IT) (v : Value), Itm w ok v t → Itm w' ok' v t
  | .num n, v, h => by rw [Itm] at h ⊢; exact h
  | .text s, v, h => by rw [Itm] at h ⊢; exact h
  | .list l, v, h => by
    rw [Itm] at h ⊢
    obtain ⟨a, cap, xs, hv, hlen, hmax, ha, hx⟩ := h
    refine ⟨a, cap, xs, hv, hlen, hmax, fun hne => ?_, ItmL.carry hsz hcell hok l xs hx⟩
    obtain ⟨b, h1, h2, h3, h4⟩ := ha hne
    exact ⟨b, h1, Nat.lt_of_lt_of_le h2 hsz, hok b h3 h2, fun j x hj => (hcell b j h3 h2).trans (h4 j x hj)⟩
theorem ItmL.carry {w w' : World} {ok ok' : Nat → Prop} (hsz : w.heap.size ≤ w'.heap.size) (hcell : ∀ b j, ok b → b < w.heap.size → w'.cell? ⟨b, j, none⟩ = w.cell? ⟨b, j, none⟩) (hok : ∀ b, ok b → b < w.heap.size → ok' b) : ∀ (l : List IT) (xs : List Value), ItmL w ok xs l → ItmL w' ok' xs l
  | [], _, _ => by rw [ItmL]; trivial
  | t :: l, [], h => by rw [ItmL] at h; exact h.elim
  | t :: l, x :: xs, h => by
    rw [ItmL] at h ⊢
    exact ⟨Itm.carry hsz hcell hok t x h.1, ItmL.carry hsz hcell hok l xs h.2⟩
end

theorem Touch.cell {S : Nat → Prop} {a b : World} (h : Touch S a b) (k j : Nat) (hk : k < a.heap.size) (hs : ¬ S k) : b.cell? ⟨k, j, none⟩ = a.cell? ⟨k, j, none⟩ :=
  World.cell?_of_block (w := a) (w' := b) (a := ⟨k, j, none⟩) (h.block k hk hs)

theorem Itm.touch {S ok : Nat → Prop} {w w' : World} {v : Value} {t : IT} (h : Itm w ok v t) (ht : Touch S w w') (hs : ∀ b, ok b → b < w.heap.size → ¬ S b) : Itm w' ok v t :=
  Itm.carry ht.size (fun b j hb hlt => ht.cell b j hlt (hs b hb hlt)) (fun _ hb _ => hb) t v h
theorem ItmL.touch {S ok : Nat → Prop} {w w' : World} {xs : List Value} {l : List IT} (h : ItmL w ok xs l) (ht : Touch S w w') (hs : ∀ b, ok b → b < w.heap.size → ¬ S b) : ItmL w' ok xs l :=
  ItmL.carry ht.size (fun b j hb hlt => ht.cell b j hlt (hs b hb hlt)) (fun _ hb _ => hb) l xs h
theorem Itm.mono {ok ok' : Nat → Prop} {w : World} {v : Value} {t : IT} (h : Itm w ok v t) (hs : ∀ b, ok b → b < w.heap.size → ok' b) : Itm w ok' v t :=
  Itm.carry (Nat.le_refl _) (fun _ _ _ _ => rfl) hs t v h
theorem ItmL.mono {ok ok' : Nat → Prop} {w : World} {xs : List Value} {l : List IT} (h : ItmL w ok xs l) (hs : ∀ b, ok b → b < w.heap.size → ok' b) : ItmL w ok' xs l :=
  ItmL.carry (Nat.le_refl _) (fun _ _ _ _ => rfl) hs l xs h
theorem Itm.below {B : Nat} {ok : Nat → Prop} {w w' : World} {v : Value} {t : IT} (h : Itm w ok v t) (hb : Below B w w') (hs : ∀ b, ok b → b < w.heap.size → b < B) : Itm w' ok v t :=
  Itm.carry hb.size (fun b j ho hlt => hb.cell (p := ⟨b, j, none⟩) (hs b ho hlt)) (fun _ hb _ => hb) t v h
theorem Itm.old {ok : Nat → Prop} {w w' : World} {v : Value} {t : IT} (h : Itm w ok v t) (hb : Below w.heap.size w w') : Itm w' ok v t := h.below hb (fun _ _ h => h)

/-- The value of an item is one cell. -/
theorem Itm.one {ok : Nat → Prop} {w : World} : ∀ {v : Value} {t : IT}, Itm w ok v t → ∃ T u, v = .iface T u
  | _, .num _, h => by rw [Itm] at h; exact ⟨_, _, h⟩
  | _, .text _, h => by rw [Itm] at h; exact ⟨_, _, h⟩
  | _, .list _, h => by rw [Itm] at h; obtain ⟨_, _, _, h, _⟩ := h; exact ⟨_, _, h⟩

mutual
/-- How deep. -/
def IT.dep : IT → Nat
  | .num _ => 1
  | .text _ => 1
  | .list l => depL l + 1
def depL : List IT → Nat
  | [] => 0
  | t :: l => max t.dep (depL l)
end
theorem dep_mem : ∀ {l : List IT} {t : IT}, t ∈ l → t.dep ≤ depL l
  | t0 :: l, t, h => by
    rw [depL]
    rcases List.mem_cons.1 h with rfl | h
    · exact Nat.le_max_left _ _
    · exact Nat.le_trans (dep_mem h) (Nat.le_max_right _ _)
theorem depL_take_succ (l : List IT) (k : Nat) (t : IT) (h : l[k]? = some t) : depL (l.take (k + 1)) = max (depL (l.take k)) t.dep := by
  induction l generalizing k with
  | nil => simp at h
  | cons t0 l ih =>
    cases k with
    | zero => simp at h; subst h; simp [depL]
    | succ k =>
      simp at h
      rw [List.take_succ_cons, List.take_succ_cons, depL, depL, ih k h]
      omega
theorem depL_take_le (l : List IT) (k : Nat) : depL (l.take k) ≤ depL l := by
  induction l generalizing k with
  | nil => simp
  | cons t l ih =>
    cases k with
    | zero => simp [depL]
    | succ k => rw [List.take_succ_cons, depL, depL]; have := ih k; omega

theorem own_shape {w : World} {base : Nat} {e : TypeId} {size : Nat} {v : Value} {n : Nat} {xs : List Value} (h : w.ownsRow base e size v n xs) : ∃ a cap, v = .slice a n cap := by
  rcases h.2 with ⟨hv, h0⟩ | ⟨g, cap, cur, hv, _⟩
  · exact ⟨none, 0, by rw [hv, h0]⟩
  · exact ⟨_, _, hv⟩
/-- A row of the call's own that is not empty, opened. -/
theorem own_open {w : World} {base : Nat} {e : TypeId} {size : Nat} {v : Value} {n : Nat} {xs : List Value} (h : w.ownsRow base e size v n xs) (hn : n ≠ 0) :
    ∃ g cap, v = .slice (some ⟨g, 0, none⟩) n cap ∧ base ≤ g ∧ g < w.heap.size ∧ n ≤ cap ∧ ∀ (j : Nat) x, xs[j]? = some x → w.cell? ⟨g, j, none⟩ = some x := by
  rcases h.2 with ⟨_, h0⟩ | ⟨g, cap, cur, hv, h1, h2, h3, _⟩
  · exact absurd h0 hn
  · refine ⟨g, cap, hv, h1, (Array.getElem?_eq_some_iff.1 h2).1, h3, fun j x hj => ?_⟩
    have := h.cells (g := g) (by rw [hv]; rfl) j x hj
    have hadd : (⟨g, 0, none⟩ : Addr).add j = ⟨g, j, none⟩ := by unfold Addr.add; split <;> simp_all
    rw [hadd] at this
    exact this

/-- The k-th item of a list that is walked. -/
theorem Itm.cell_at {w : World} {ok : Nat → Prop} {a : Option Addr} {xs : List Value} {l : List IT} (hx : ItmL w ok xs l) (ha : l ≠ [] → ∃ b, a = some ⟨b, 0, none⟩ ∧ b < w.heap.size ∧ ok b ∧ ∀ j x, xs[j]? = some x → w.cell? ⟨b, j, none⟩ = some x) (k : Nat) (hk : k < l.length) :
    ∃ b T u t, a = some ⟨b, 0, none⟩ ∧ b < w.heap.size ∧ ok b ∧ l[k]? = some t ∧ t ∈ l ∧ w.cell? ⟨b, k, none⟩ = some (.iface T u) ∧ Itm w ok (.iface T u) t := by
  obtain ⟨b, h1, h2, h3, h4⟩ := ha (by intro e; subst e; simp at hk)
  obtain ⟨x, hx1, hx2⟩ := hx.at k l[k] (List.getElem?_eq_getElem hk)
  obtain ⟨T, u, rfl⟩ := hx2.one
  exact ⟨b, T, u, l[k], h1, h2, h3, List.getElem?_eq_getElem hk, List.getElem_mem hk, h4 k _ hx1, hx2⟩

section
variable {P : Program} {T xT t : TypeId} {v z : Value} {j : TypeInfo} {w : World}
/-- A type that is no interface: asserted. -/
def Plain (P : Program) (T : TypeId) : Prop := P.underlying T = some (.int .i64) ∨ P.underlying T = some .string ∨ ∃ e, P.underlying T = some (.slice e)
theorem run_assert_hit (h : Plain P T) (v : Value) (xT : TypeId) (w : World) : (Instr.typeAssert (.iface T v) xT T true).run P w = .ok (.tuple #[v, .bool true]) w := by
  rcases h with h | h | ⟨e, h⟩ <;> simp [Instr.typeAssert, run_underlying h, go_sem, Result.andThen]
theorem run_assert_miss (h : Plain P T) (hz : (P.info? T).map (·.zero) = some (some z)) (ht : t ≠ T) (v : Value) (xT : TypeId) (w : World) : (Instr.typeAssert (.iface t v) xT T true).run P w = .ok (.tuple #[z, .bool false]) w := by
  obtain ⟨j, hj, hz'⟩ := Option.map_eq_some_iff.1 hz
  rcases h with h | h | ⟨e, h⟩ <;> simp [Instr.typeAssert, run_underlying h, go_sem, Result.andThen, ht, zeroValue, typeInfo, hj, hz']
theorem run_assert_nil (h : Plain P T) (hz : (P.info? T).map (·.zero) = some (some z)) (xT : TypeId) (w : World) : (Instr.typeAssert .nilIface xT T true).run P w = .ok (.tuple #[z, .bool false]) w := by
  obtain ⟨j, hj, hz'⟩ := Option.map_eq_some_iff.1 hz
  rcases h with h | h | ⟨e, h⟩ <;> simp [Instr.typeAssert, run_underlying h, go_sem, Result.andThen, zeroValue, typeInfo, hj, hz']
end
theorem plainNum : Plain Tryd.prog 2 := .inl (by kernel_rfl)
theorem plainText : Plain Tryd.prog 9 := .inr (.inl (by kernel_rfl))
theorem plainList : Plain Tryd.prog 85 := .inr (.inr ⟨24, by kernel_rfl⟩)
theorem zeroNum : (Tryd.prog.info? 2).map (·.zero) = some (some (.int .i64 0)) := by kernel_rfl
theorem zeroText : (Tryd.prog.info? 9).map (·.zero) = some (some (.string .empty)) := by kernel_rfl
theorem zeroList : (Tryd.prog.info? 85).map (·.zero) = some (some (.slice none 0 0)) := by kernel_rfl

end Go.Proofs.YtkjekofllfkgoaaDoor
