/- A slice of structs of a number, a number, a number and a text, opened. Conditions: none of a program. -/
import Derived.Test.YtljnfppmnikngaaKit
import Derived.Deep.Slices
import Derived.Deep.MidRow
import Derived.ProofKit
import Derived.OpenShut
namespace Go.Proofs.Ytljnfppmnikngaa
open Go.RowKit Go.ChangeShapes Go.WideShapes Go.ChangeAt

structure PartV where
  what : Int
  n : Nat
  size : Int
  text : ByteArray

def PartV.row (p : PartV) : List Value := [.int .i64 p.what, .int .u64 p.n, .int .i64 p.size, .string p.text]
def PartV.ok (p : PartV) : Prop := (Lit.int .i64 p.what).wf = true ∧ p.n < 18446744073709551616 ∧ (Lit.int .i64 p.size).wf = true ∧ p.text.size ≤ maxLen
def PartV.dat {H : Type} (p : PartV) : DataW H := .agg [.lit (.int .i64 p.what), .lit (.int .u64 p.n), .lit (.int .i64 p.size), .lit (.string p.text.data.toList)]

section
variable {H : Type} {enc : TypeId × Value → H} {P : Program} {w : World} {base : Nat} {spare : Nat → Bool} {held : Bool} {t e ti tu ts : TypeId}

theorem trod_part {fs : Array Field} {n : Nat} {cs : List Value} {x : DataW H × List MemPlace} (he : P.underlying e = some (.struct fs)) (hfs : fs.toList.map (fun f => (f.type, f.offset)) = [(ti, 0), (tu, 1), (ti, 2), (ts, 3)])
    (hi : P.underlying ti = some (.int .i64)) (hu : P.underlying tu = some (.int .u64)) (hs : P.underlying ts = some .string) (ci : P.cellsOf ti = 1) (cu : P.cellsOf tu = 1) (cS : P.cellsOf ts = 1) (ce : P.cellsOf e = 4)
    (h : DataW.trod enc P w base spare held n e cs = some x) : ∃ p : PartV, cs = p.row ∧ p.ok ∧ x = (p.dat, []) := by
  obtain ⟨xs, m, _, rfl, hl, hx, hf⟩ := DataW.trod_struct he h
  rw [ce] at hl
  have hsz : fs.size = 4 := by have := congrArg List.length hfs; simpa using this
  rw [hsz] at hx
  have hget : ∀ (i : Nat) (t : TypeId) (o : Nat), ([(ti, 0), (tu, 1), (ti, 2), (ts, 3)] : List (TypeId × Nat))[i]? = some (t, o) → DataW.trod enc P w base spare held m t ((cs.drop o).take (P.cellsOf t)) = xs[i]? := by
    intro i t o hi
    rw [← hfs, List.getElem?_map, Option.map_eq_some_iff] at hi
    obtain ⟨f, hf1, hf2⟩ := hi
    have e1 : f.type = t := congrArg Prod.fst hf2
    have e2 : f.offset = o := congrArg Prod.snd hf2
    have := hf i f (by simpa using hf1)
    rw [e1, e2] at this; exact this
  obtain ⟨x0, x1, x2, x3, rfl⟩ : ∃ a b c d, xs = [a, b, c, d] := by
    match xs, hx with
    | [a, b, c, d], _ => exact ⟨a, b, c, d, rfl⟩
  obtain ⟨c0, c1, c2, c3, rfl⟩ : ∃ a b c d, cs = [a, b, c, d] := by
    match cs, hl with
    | [a, b, c, d], _ => exact ⟨a, b, c, d, rfl⟩
  have h0 := hget 0 ti 0 rfl
  have h1 := hget 1 tu 1 rfl
  have h2 := hget 2 ti 2 rfl
  have h3 := hget 3 ts 3 rfl
  rw [ci] at h0 h2
  rw [cu] at h1
  rw [cS] at h3
  obtain ⟨z0, e0, y0, w0⟩ := DataW.trod_int hi h0
  obtain ⟨z1, e1, y1, w1⟩ := DataW.trod_int hu h1
  obtain ⟨z2, e2, y2, w2⟩ := DataW.trod_int hi h2
  obtain ⟨z3, e3, y3, w3⟩ := DataW.trod_string hs h3
  simp at e0 e1 e2 e3 
  subst e0 e1 e2 e3 y0 y1 y2 y3
  have wb : 0 ≤ z1 ∧ z1 < 18446744073709551616 := by simp [Lit.wf, IntKind.min, IntKind.max, IntKind.signed, IntKind.bits] at w1; omega
  obtain ⟨m1, rfl⟩ := Int.eq_ofNat_of_zero_le wb.1
  exact ⟨⟨z0, m1, z2, z3⟩, rfl, ⟨w0, (by have := wb.2; show m1 < _; omega), w2, w3⟩, rfl⟩
end

/-- The value of a slice reads as these parts, each of four cells. -/
def PartsAt (w : World) (v : Value) (ps : List PartV) : Prop :=
  ∃ a cap, v = .slice a ps.length cap ∧ ps.length ≤ cap ∧ ∀ k p, ps[k]? = some p → ∃ b off, a = some ⟨b, off, none⟩ ∧ b < w.heap.size ∧ w.rangeAt b (off + k * 4) p.row

theorem PartsAt.touch {S : Nat → Prop} {w w' : World} {v : Value} {ps : List PartV} (h : PartsAt w v ps) (ht : Touch S w w') (hS : ∀ k, S k → w.heap.size ≤ k) : PartsAt w' v ps := by
  obtain ⟨a, cap, rfl, hc, h⟩ := h
  refine ⟨a, cap, rfl, hc, fun k p hp => ?_⟩
  obtain ⟨b, off, rfl, hb, hr⟩ := h k p hp
  refine ⟨b, off, rfl, Nat.lt_of_lt_of_le hb ht.size, fun j u hu => ?_⟩
  rw [World.cell?_of_block (w := w) (w' := w') (ht.block b hb (fun hs => by have := hS b hs; omega))]
  exact hr j u hu

theorem PartsAt.below {w w' : World} {v : Value} {ps : List PartV} (h : PartsAt w v ps) (ht : Below w.heap.size w w') : PartsAt w' v ps :=
  h.touch (Touch.of_below ht (fun _ => False)) (fun _ h => h.elim)

theorem PartsAt.take {w : World} {a : Option Addr} {len cap n : Nat} {ps : List PartV} (h : PartsAt w (.slice a len cap) ps) (hn : n ≤ len) : PartsAt w (.slice a n cap) (ps.take n) := by
  obtain ⟨a', cap', hv, hc, h⟩ := h
  injection hv with h1 h2 h3
  subst h1 h2 h3
  have hl : (ps.take n).length = n := by rw [List.length_take]; omega
  refine ⟨a, cap, by rw [hl], by omega, fun k p hp => h k p ?_⟩
  rw [List.getElem?_take] at hp
  split at hp
  · exact hp
  · cases hp

section
variable {H : Type} {enc : TypeId × Value → H} {P : Program} {w : World} {r : Reach} {base b0 : Nat} {spare : Nat → Bool} {held : Bool} {t e ti tu ts : TypeId} {v : Value} {d : DataW H} {ps : List MemPlace}
/-- A slice of parts: its cells, and its reading. -/
theorem open_parts {fs : Array Field} (ht : P.underlying t = some (.slice e)) (he : P.underlying e = some (.struct fs)) (hfs : fs.toList.map (fun f => (f.type, f.offset)) = [(ti, 0), (tu, 1), (ti, 2), (ts, 3)])
    (hi : P.underlying ti = some (.int .i64)) (hu : P.underlying tu = some (.int .u64)) (hs : P.underlying ts = some .string) (ci : P.cellsOf ti = 1) (cu : P.cellsOf tu = 1) (cS : P.cellsOf ts = 1) (ce : P.cellsOf e = 4)
    (hok : Value.okWide P w r b0 t v) (h : DataW.Trod enc P w base spare held t v d ps) :
    ∃ a len cap, ∃ l : List PartV, v = .slice a len cap ∧ len ≤ cap ∧ PartsAt w (.slice a len cap) l ∧ l.length = len ∧ (∀ p ∈ l, p.ok) ∧ (l = [] ∨ ∃ rest, d = .slice (l.map PartV.dat) rest) := by
  obtain ⟨a0, len0, cap0, rfl⟩ := okWide_slice ht hok
  obtain ⟨fuel, hf⟩ := h
  rcases Go.Deep.open_slice ht hf with ⟨hcs, _⟩ | ⟨x, l, c, m, n, D, Pl, hcs, _, hl, hm, hmm, hx, hel⟩
  · simp [Value.cells] at hcs
    obtain ⟨rfl, rfl, rfl⟩ := hcs
    exact ⟨none, 0, 0, [], rfl, Nat.le_refl _, ⟨none, 0, rfl, Nat.le_refl _, fun k p hp => by cases hp⟩, rfl, fun _ h => (by cases h), .inl rfl⟩
  · simp [Value.cells] at hcs
    obtain ⟨rfl, rfl, rfl⟩ := hcs
    rw [ce] at hel
    have hlm : len0 ≤ m := by rw [hmm]; split <;> omega
    have hex : ∀ i, i < len0 → ∃ p : PartV, w.cells? base (x.add (i * 4)) 4 = some p.row ∧ p.ok ∧ D i = p.dat := by
      intro i hi'
      obtain ⟨cs', h1, h2⟩ := hel i (by omega)
      obtain ⟨p, rfl, hp, hx⟩ := trod_part he hfs hi hu hs ci cu cS ce h2
      exact ⟨p, h1, hp, congrArg Prod.fst hx⟩
    haveI : Inhabited PartV := ⟨⟨0, 0, 0, ByteArray.empty⟩⟩
    obtain ⟨f, hfp⟩ := Go.Deep.choose_lt hex
    have hd : d = .slice ((List.range len0).map D) ((List.range (m - len0)).map fun j => D (len0 + j)) := congrArg Prod.fst hx
    have hcell : ∀ i, i < len0 → ∀ j u, (f i).row[j]? = some u → w.cell? (x.add (i * 4 + j)) = some u := by
      intro i hi' j u hj
      have h1 := (hfp i hi').1
      unfold World.cells? at h1
      split at h1
      · have hj4 : j < 4 := by
          rcases Nat.lt_or_ge j 4 with h | h
          · exact h
          · rw [List.getElem?_eq_none (by simpa [PartV.row] using h)] at hj; cases hj
        have := mapM_some_get h1 j j (by simp [hj4])
        rw [Go.Deep.add_add, hj] at this
        exact this
      · cases h1
    refine ⟨some x, len0, cap0, (List.range len0).map f, rfl, hl, ⟨some x, cap0, by simp, by simpa using hl, fun k p hp => ?_⟩, by simp, ?_, .inr ⟨_, by rw [hd, List.map_map]; congr 1; exact List.map_congr_left fun i hi' => (hfp i (by simpa using hi')).2.2⟩⟩
    · rw [List.getElem?_map, Option.map_eq_some_iff] at hp
      obtain ⟨k', hk', rfl⟩ := hp
      have hkl : k < len0 := by
        rcases Nat.lt_or_ge k len0 with h | h
        · exact h
        · rw [List.getElem?_eq_none (by simpa using h)] at hk'; cases hk'
      rw [List.getElem?_range hkl] at hk'
      injection hk' with hk'
      subst hk'
      have h0 := hcell 0 (by omega) 0 _ rfl
      obtain ⟨b, off, spot⟩ := x
      have hspot : spot = none := by simpa [Addr.add] using World.cell?_spot h0
      subst hspot
      refine ⟨b, off, rfl, ?_, fun j u hj => ?_⟩
      · rw [Addr.add_mid] at h0; exact World.block_lt_of_cell? w _ h0
      · have := hcell k hkl j u hj
        rw [Addr.add_mid, ← Nat.add_assoc] at this; exact this
    · intro p hp
      obtain ⟨i, hi', rfl⟩ := List.mem_map.1 hp
      exact (hfp i (by simpa using hi')).2.1
end

end Go.Proofs.Ytljnfppmnikngaa
