/- A slice of structs of two numbers and a text, opened. Conditions: none of a program. -/
import Derived.Test.YtkjekofllfkgoaaDoorKit
import Derived.Deep.Slices
import Derived.Deep.MidRow
import Derived.ProofKit
import Derived.OpenShut
namespace Go.Proofs.YtkjekofllfkgoaaDoor
open Go.RowKit Go.ChangeShapes Go.WideShapes Go.ChangeAt

structure NdV where
  kind : Int
  n : Int
  text : ByteArray

def NdV.row (p : NdV) : List Value := [.int .i64 p.kind, .int .i64 p.n, .string p.text]
def NdV.ok (p : NdV) : Prop := (Lit.int .i64 p.kind).wf = true ∧ (Lit.int .i64 p.n).wf = true ∧ p.text.size ≤ maxLen
def NdV.dat {H : Type} (p : NdV) : DataW H := .agg [.lit (.int .i64 p.kind), .lit (.int .i64 p.n), .lit (.string p.text.data.toList)]

section
variable {H : Type} {enc : TypeId × Value → H} {P : Program} {w : World} {base : Nat} {spare : Nat → Bool} {held : Bool} {t e ti tu ts : TypeId}

theorem trod_node {fs : Array Field} {n : Nat} {cs : List Value} {x : DataW H × List MemPlace} (he : P.underlying e = some (.struct fs)) (hfs : fs.toList.map (fun f => (f.type, f.offset)) = [(ti, 0), (tu, 1), (ts, 2)])
    (hi : P.underlying ti = some (.int .i64)) (hu : P.underlying tu = some (.int .i64)) (hs : P.underlying ts = some .string) (ci : P.cellsOf ti = 1) (cu : P.cellsOf tu = 1) (cS : P.cellsOf ts = 1) (ce : P.cellsOf e = 3)
    (h : DataW.trod enc P w base spare held n e cs = some x) : ∃ p : NdV, cs = p.row ∧ p.ok ∧ x = (p.dat, []) := by
  obtain ⟨xs, m, _, rfl, hl, hx, hf⟩ := DataW.trod_struct he h
  rw [ce] at hl
  have hsz : fs.size = 3 := by have := congrArg List.length hfs; simpa using this
  rw [hsz] at hx
  have hget : ∀ (i : Nat) (t : TypeId) (o : Nat), ([(ti, 0), (tu, 1), (ts, 2)] : List (TypeId × Nat))[i]? = some (t, o) → DataW.trod enc P w base spare held m t ((cs.drop o).take (P.cellsOf t)) = xs[i]? := by
    intro i t o hi
    rw [← hfs, List.getElem?_map, Option.map_eq_some_iff] at hi
    obtain ⟨f, hf1, hf2⟩ := hi
    have e1 : f.type = t := congrArg Prod.fst hf2
    have e2 : f.offset = o := congrArg Prod.snd hf2
    have := hf i f (by simpa using hf1)
    rw [e1, e2] at this; exact this
  obtain ⟨x0, x1, x2, rfl⟩ : ∃ a b c, xs = [a, b, c] := by
    match xs, hx with
    | [a, b, c], _ => exact ⟨a, b, c, rfl⟩
  obtain ⟨c0, c1, c2, rfl⟩ : ∃ a b c, cs = [a, b, c] := by
    match cs, hl with
    | [a, b, c], _ => exact ⟨a, b, c, rfl⟩
  have h0 := hget 0 ti 0 rfl
  have h1 := hget 1 tu 1 rfl
  have h2 := hget 2 ts 2 rfl
  rw [ci] at h0
  rw [cu] at h1
  rw [cS] at h2
  obtain ⟨z0, e0, y0, w0⟩ := DataW.trod_int hi h0
  obtain ⟨z1, e1, y1, w1⟩ := DataW.trod_int hu h1
  obtain ⟨z2, e2, y2, w2⟩ := DataW.trod_string hs h2
  simp at e0 e1 e2
  subst e0 e1 e2 y0 y1 y2
  exact ⟨⟨z0, z1, z2⟩, rfl, ⟨w0, w1, w2⟩, rfl⟩
end

/-- The value of a slice reads as these parts, each of three cells. -/
def NodesAt (w : World) (v : Value) (ps : List NdV) : Prop :=
  ∃ a cap, v = .slice a ps.length cap ∧ ps.length ≤ cap ∧ ∀ k p, ps[k]? = some p → ∃ b off, a = some ⟨b, off, none⟩ ∧ b < w.heap.size ∧ w.rangeAt b (off + k * 3) p.row

theorem NodesAt.touch {S : Nat → Prop} {w w' : World} {v : Value} {ps : List NdV} (h : NodesAt w v ps) (ht : Touch S w w') (hS : ∀ k, S k → w.heap.size ≤ k) : NodesAt w' v ps := by
  obtain ⟨a, cap, rfl, hc, h⟩ := h
  refine ⟨a, cap, rfl, hc, fun k p hp => ?_⟩
  obtain ⟨b, off, rfl, hb, hr⟩ := h k p hp
  refine ⟨b, off, rfl, Nat.lt_of_lt_of_le hb ht.size, fun j u hu => ?_⟩
  rw [World.cell?_of_block (w := w) (w' := w') (ht.block b hb (fun hs => by have := hS b hs; omega))]
  exact hr j u hu

theorem NodesAt.below {w w' : World} {v : Value} {ps : List NdV} (h : NodesAt w v ps) (ht : Below w.heap.size w w') : NodesAt w' v ps :=
  h.touch (Touch.of_below ht (fun _ => False)) (fun _ h => h.elim)

theorem NodesAt.take {w : World} {a : Option Addr} {len cap n : Nat} {ps : List NdV} (h : NodesAt w (.slice a len cap) ps) (hn : n ≤ len) : NodesAt w (.slice a n cap) (ps.take n) := by
  obtain ⟨a', cap', hv, hc, h⟩ := h
  injection hv with h1 h2 h3
  subst h1 h2 h3
  have hl : (ps.take n).length = n := by rw [List.length_take]; omega
  refine ⟨a, cap, by rw [hl], by omega, fun k p hp => h k p ?_⟩
  rw [List.getElem?_take] at hp
  split at hp
  · exact hp
  · cases hp

section
variable {H : Type} {enc : TypeId × Value → H} {P : Program} {w : World} {r : Reach} {base b0 : Nat} {spare : Nat → Bool} {held : Bool} {t e ti tu ts : TypeId} {v : Value} {d : DataW H} {ps : List MemPlace}
/-- A slice of parts: its cells, and its reading. -/
theorem open_nodes {fs : Array Field} (ht : P.underlying t = some (.slice e)) (he : P.underlying e = some (.struct fs)) (hfs : fs.toList.map (fun f => (f.type, f.offset)) = [(ti, 0), (tu, 1), (ts, 2)])
    (hi : P.underlying ti = some (.int .i64)) (hu : P.underlying tu = some (.int .i64)) (hs : P.underlying ts = some .string) (ci : P.cellsOf ti = 1) (cu : P.cellsOf tu = 1) (cS : P.cellsOf ts = 1) (ce : P.cellsOf e = 3)
    (hok : Value.okWide P w r b0 t v) (h : DataW.Trod enc P w base spare held t v d ps) :
    ∃ a len cap, ∃ l : List NdV, v = .slice a len cap ∧ len ≤ cap ∧ NodesAt w (.slice a len cap) l ∧ l.length = len ∧ (∀ p ∈ l, p.ok) ∧ (l = [] ∨ ∃ rest, d = .slice (l.map NdV.dat) rest) := by
  obtain ⟨a0, len0, cap0, rfl⟩ := okWide_slice ht hok
  obtain ⟨fuel, hf⟩ := h
  rcases Go.Deep.open_slice ht hf with ⟨hcs, _⟩ | ⟨x, l, c, m, n, D, Pl, hcs, _, hl, hm, hmm, hx, hel⟩
  · simp [Value.cells] at hcs
    obtain ⟨rfl, rfl, rfl⟩ := hcs
    exact ⟨none, 0, 0, [], rfl, Nat.le_refl _, ⟨none, 0, rfl, Nat.le_refl _, fun k p hp => by cases hp⟩, rfl, fun _ h => (by cases h), .inl rfl⟩
  · simp [Value.cells] at hcs
    obtain ⟨rfl, rfl, rfl⟩ := hcs
    rw [ce] at hel
    have hlm : len0 ≤ m := by rw [hmm]; split <;> omega
    have hex : ∀ i, i < len0 → ∃ p : NdV, w.cells? base (x.add (i * 3)) 3 = some p.row ∧ p.ok ∧ D i = p.dat := by
      intro i hi'
      obtain ⟨cs', h1, h2⟩ := hel i (by omega)
      obtain ⟨p, rfl, hp, hx⟩ := trod_node he hfs hi hu hs ci cu cS ce h2
      exact ⟨p, h1, hp, congrArg Prod.fst hx⟩
    haveI : Inhabited NdV := ⟨⟨0, 0, ByteArray.empty⟩⟩
    obtain ⟨f, hfp⟩ := Go.Deep.choose_lt hex
    have hd : d = .slice ((List.range len0).map D) ((List.range (m - len0)).map fun j => D (len0 + j)) := congrArg Prod.fst hx
    have hcell : ∀ i, i < len0 → ∀ j u, (f i).row[j]? = some u → w.cell? (x.add (i * 3 + j)) = some u := by
      intro i hi' j u hj
      have h1 := (hfp i hi').1
      unfold World.cells? at h1
      split at h1
      · have hj4 : j < 3 := by
          rcases Nat.lt_or_ge j 3 with h | h
          · exact h
          · rw [List.getElem?_eq_none (by simpa [NdV.row] using h)] at hj; cases hj
        have := mapM_some_get h1 j j (by simp [hj4])
        rw [Go.Deep.add_add, hj] at this
        exact this
      · cases h1
    refine ⟨some x, len0, cap0, (List.range len0).map f, rfl, hl, ⟨some x, cap0, by simp, by simpa using hl, fun k p hp => ?_⟩, by simp, ?_, .inr ⟨_, by rw [hd, List.map_map]; congr 1; exact List.map_congr_left fun i hi' => (hfp i (by simpa using hi')).2.2⟩⟩
    · rw [List.getElem?_map, Option.map_eq_some_iff] at hp
      obtain ⟨k', hk', rfl⟩ := hp
      have hkl : k < len0 := by
        rcases Nat.lt_or_ge k len0 with h | h
        · exact h
        · rw [List.getElem?_eq_none (by simpa using h)] at hk'; cases hk'
      rw [List.getElem?_range hkl] at hk'
      injection hk' with hk'
      subst hk'
      have h0 := hcell 0 (by omega) 0 _ rfl
      obtain ⟨b, off, spot⟩ := x
      have hspot : spot = none := by simpa [Addr.add] using World.cell?_spot h0
      subst hspot
      refine ⟨b, off, rfl, ?_, fun j u hj => ?_⟩
      · rw [Addr.add_mid] at h0; exact World.block_lt_of_cell? w _ h0
      · have := hcell k hkl j u hj
        rw [Addr.add_mid, ← Nat.add_assoc] at this; exact this
    · intro p hp
      obtain ⟨i, hi', rfl⟩ := List.mem_map.1 hp
      exact (hfp i (by simpa using hi')).2.1
end

end Go.Proofs.YtkjekofllfkgoaaDoor
