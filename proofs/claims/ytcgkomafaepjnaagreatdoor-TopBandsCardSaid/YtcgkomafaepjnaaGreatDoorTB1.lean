/- Small laws of the walk that hold over every program: an append of one value to a list of the call's own; what is kept below it. Conditions: none of a program. | Package bits: the bit of a key, its band, the first key of a band, how many bits two keys share. Conditions: texts no longer than the model's bound. | bits.Below: are the first bits of two keys alike? Conditions: texts no longer than the model's bound. | bits.Common: how many bits two texts begin with alike. Conditions: texts no longer than the model's bound. -/
import Derived.WalkKit
import Derived.Lib.Hide
import Derived.Laws.BytesArg
import Derived.Maps.AppendAt
import Derived.Deep.Draws
import Derived.Lib.AppendStr
import Derived.Test.YtcgkomafaepjnaaGreatDoorRows
import Derived.BigQuiet
import Derived.Deep.QuietTactic
import Derived.Laws.BitsAllLaws
namespace Go.Proofs.YtcgkomafaepjnaaGreatDoor
open Go.RowKit

theorem cell_new1 (w : World) (x : Value) (t : TypeId) : ∀ j u, [x][j]? = some u → (w.alloc (.cells #[x] t)).cell? ((⟨w.heap.size, 0, none⟩ : Addr).add j) = some u := by
  intro j u hj
  match j, hj with
  | 0, hj => simp at hj; subst hj; simp [Addr.add]

theorem grownBy_of_alloc {w w' : World} {o : Obj} {row : Option Nat} (h : (w.alloc o).grownBy w' row) : w.grownBy w' row :=
  ⟨h.os, h.tape, h.output, by have := h.size; simp at this; omega, fun k hk hne => (h.block k (by simp; omega) hne).trans (Below.heap_alloc w o k hk)⟩

theorem grownBy_trans {a b c : World} {row : Option Nat} (h : a.grownBy b row) (k : b.grownBy c row) : a.grownBy c row :=
  ⟨k.os.trans h.os, k.tape.trans h.tape, k.output.trans h.output, Nat.le_trans h.size k.size, fun i hi hne => (k.block i (Nat.lt_of_lt_of_le hi h.size) hne).trans (h.block i hi hne)⟩

/-- 'out = append(out, y)': out the call's own; y one cell, laid in a new block by the walk. -/
theorem wpList_app1 {P : Program} {ops : Array Oper} {rest : List Oper} {o : Oper} {a : Act} {Q : Exit → Act → World → Prop} {w : World} (hgd : o.guard = none) {s x : Operand} {t : TypeId}
    (ho : o.op = .call { callee := .builtin .append, args := #[s, x], argTypes := #[t, t] })
    {e : TypeId} {z : Value} {bytes : Nat} (ht : P.underlying t = some (.slice e)) (hinfo : (P.info? e).map (fun i => (i.zero, i.size, i.bytes)) = some (some z, 1, bytes)) (hzs : z.cells.size = 1)
    {base : Nat} {v : Value} {n : Nat} {xs : List Value} (hown : w.ownsRow base e 1 v n xs) (hs : a.eval s = v) {y : Value} (hx : a.eval x = .slice (some ⟨w.heap.size, 0, none⟩) 1 1)
    (hy : y.oneCell' = true) (hb : (n + 1) * bytes ≤ 140737488355328) (h63 : n + 1 ≤ maxLen) (hbase : base ≤ w.heap.size)
    (h : ∀ v' w', w'.ownsRow base e 1 v' (n + 1) (xs ++ [y]) → w.grownBy w' v.ownBlock → wpList P ops Q rest (a.put o.dst v') w') : wpList P ops Q (o :: rest) a (w.alloc (.cells #[y] e)) := by
  obtain ⟨i0, hi, hz0, hz1, hz2⟩ := info_parts hinfo
  refine wpList_append_own _ hgd s x t ho base e i0 z 1 bytes ht hi hz0 hz1 hz2 hzs (by decide) v n xs hs (hown.alloc _) ⟨w.heap.size, 0, none⟩ 1 1 [y] hx rfl (cell_new1 _ _ _) ?_ h63 hb (by simp; omega) ?_
  · intro u hu; simp at hu; subst hu; exact hy
  · intro v' w' hown' hgrow _
    exact h v' w' hown' (grownBy_of_alloc hgrow)

theorem cells_newL (w : World) (ys : Array Value) (t : TypeId) : ∀ j u, ys.toList[j]? = some u → (w.alloc (.cells ys t)).cell? ((⟨w.heap.size, 0, none⟩ : Addr).add j) = some u := by
  intro j u hj
  have hadd : (⟨w.heap.size, 0, none⟩ : Addr).add j = ⟨w.heap.size, j, none⟩ := by unfold Addr.add; split <;> simp_all
  rw [hadd, World.cell?_alloc_at _ _ _ _ rfl]; simpa using hj

/-- 'out = append(out, x, y, ..)': some values at once, laid in a new block by the walk. -/
theorem wpList_appL {P : Program} {ops : Array Oper} {rest : List Oper} {o : Oper} {a : Act} {Q : Exit → Act → World → Prop} {w : World} (hgd : o.guard = none) {s x : Operand} {t : TypeId}
    (ho : o.op = .call { callee := .builtin .append, args := #[s, x], argTypes := #[t, t] })
    {e : TypeId} {z : Value} {bytes : Nat} (ht : P.underlying t = some (.slice e)) (hinfo : (P.info? e).map (fun i => (i.zero, i.size, i.bytes)) = some (some z, 1, bytes)) (hzs : z.cells.size = 1)
    {base : Nat} {v : Value} {n c : Nat} (m : Nat) {xs : List Value} (hown : w.ownsRow base e 1 v n xs) (hs : a.eval s = v) {ys : Array Value} (hx : a.eval x = .slice (some ⟨w.heap.size, 0, none⟩) m c)
    (hm : ys.size = m) (hy : ∀ u ∈ ys.toList, u.oneCell' = true) (hb : (n + m) * bytes ≤ 140737488355328) (h63 : n + m ≤ maxLen) (hbase : base ≤ w.heap.size)
    (h : ∀ v' w', w'.ownsRow base e 1 v' (n + m) (xs ++ ys.toList) → w.grownBy w' v.ownBlock → wpList P ops Q rest (a.put o.dst v') w') : wpList P ops Q (o :: rest) a (w.alloc (.cells ys e)) := by
  obtain ⟨i0, hi, hz0, hz1, hz2⟩ := info_parts hinfo
  refine wpList_append_own _ hgd s x t ho base e i0 z 1 bytes ht hi hz0 hz1 hz2 hzs (by decide) v n xs hs (hown.alloc _) ⟨w.heap.size, 0, none⟩ m c ys.toList hx (by simp [hm]) (cells_newL _ _ _) hy h63 hb (by simp; omega) ?_
  intro v' w' hown' hgrow _
  exact h v' w' hown' (grownBy_of_alloc hgrow)

theorem below_grown {B base : Nat} {w wr w1 : World} {v : Value} {e : TypeId} {size n : Nat} {xs : List Value} (hnx : Below B w wr) (hown : wr.ownsRow base e size v n xs) (hB : B ≤ base) (hs : B ≤ wr.heap.size) (hg : wr.grownBy w1 v.ownBlock) : Below B w w1 :=
  hnx.grown hg hs (fun j hj => by have := (hown.lt j hj).1; omega)

theorem take_succ' {α : Type} (zs : List α) (z : α) (k : Nat) (hk : k < zs.length) : zs.take (k + 1) = zs.take k ++ [zs[k]?.getD z] := by
  rw [List.take_add_one, List.getElem?_eq_getElem hk]; rfl

theorem ret_int {k : IntKind} {a b : Int} (h : a = b) : Ending.returned (.int k a) = .returned (.int k b) := by rw [h]
theorem val_int {k : IntKind} {a b : Int} (h : a = b) : Value.int k a = .int k b := by rw [h]

/-- The value of a slice reads as these cells, in the order (one cell an element): nothing is said of who owns it, nor of its address where it is empty. -/
def Cells (w : World) (v : Value) (xs : List Value) : Prop :=
  ∃ a cap, v = .slice a xs.length cap ∧ (xs ≠ [] → ∃ b off, a = some ⟨b, off, none⟩ ∧ b < w.heap.size ∧ ∀ j, j < xs.length → w.cell? ⟨b, off + j, none⟩ = some (xs.getD j undef))

theorem cells_of_own {w : World} {base : Nat} {e : TypeId} {v : Value} {n : Nat} {xs : List Value} (h : w.ownsRow base e 1 v n xs) : Cells w v xs := by
  have hl := h.1
  rcases h.2 with ⟨rfl, rfl⟩ | ⟨g, cap, cur, rfl, hb, hg, hnc, hcm, hcur, htake⟩
  · simp at hl; subst hl
    exact ⟨none, 0, rfl, fun h => absurd rfl h⟩
  · refine ⟨some ⟨g, 0, none⟩, cap, by rw [hl]; simp, fun _ => ⟨g, 0, rfl, (Array.getElem?_eq_some_iff.1 hg).1, ?_⟩⟩
    intro j hj
    have := h.cells (g := g) rfl j (xs[j]) (by simp [hj])
    have hadd : (⟨g, 0, none⟩ : Addr).add j = ⟨g, 0 + j, none⟩ := by unfold Addr.add; split <;> simp_all
    rw [hadd] at this
    rw [this]; simp [hj]

theorem Cells.below {w w' : World} {v : Value} {xs : List Value} {B : Nat} (h : Cells w v xs) (hb : Below B w w') (hlt : ∀ k, v.ownBlock = some k → k < B) : Cells w' v xs := by
  obtain ⟨a, cap, rfl, hc⟩ := h
  refine ⟨a, cap, rfl, fun hne => ?_⟩
  obtain ⟨b, off, rfl, hbl, hc⟩ := hc hne
  refine ⟨b, off, rfl, Nat.lt_of_lt_of_le hbl hb.size, fun j hj => ?_⟩
  rw [hb.cell (p := ⟨b, off + j, none⟩) (hlt b rfl)]; exact hc j hj

/-- What was there before is there still. -/
theorem Cells.old {w w' : World} {v : Value} {xs : List Value} (h : Cells w v xs) (hb : Below w.heap.size w w') : Cells w' v xs := by
  obtain ⟨a, cap, rfl, hc⟩ := h
  refine ⟨a, cap, rfl, fun hne => ?_⟩
  obtain ⟨b, off, rfl, hbl, hc⟩ := hc hne
  refine ⟨b, off, rfl, Nat.lt_of_lt_of_le hbl hb.size, fun j hj => ?_⟩
  rw [hb.cell (p := ⟨b, off + j, none⟩) hbl]; exact hc j hj

theorem Cells.nil (w : World) : Cells w (.slice none 0 0) [] := ⟨none, 0, rfl, fun h => absurd rfl h⟩

/-- The numbers as values. -/
def ints (zs : List Int) : List Value := zs.map (Value.int .i64)
theorem ints_length (zs : List Int) : (ints zs).length = zs.length := List.length_map _
theorem ints_snoc (zs : List Int) (z : Int) : ints (zs ++ [z]) = ints zs ++ [.int .i64 z] := by simp [ints]
theorem ints_append (zs ys : List Int) : ints (zs ++ ys) = ints zs ++ ints ys := by simp [ints]
theorem ints_getD (zs : List Int) (j : Nat) (h : j < zs.length) : (ints zs).getD j undef = .int .i64 (zs.getD j 0) := by
  simp [ints, List.getD, List.getElem?_map, List.getElem?_eq_getElem h]

/-- A slice of numbers, opened: its address may be any where it is empty. -/
theorem Cells.openInts {w : World} {v : Value} {zs : List Int} (h : Cells w v (ints zs)) :
    ∃ a cap, v = .slice a zs.length cap ∧ ∀ k, k < zs.length → ∃ b off, a = some ⟨b, off, none⟩ ∧ b < w.heap.size ∧ ∀ j, j < zs.length → w.cell? ⟨b, off + j, none⟩ = some (.int .i64 (zs.getD j 0)) := by
  obtain ⟨a, cap, rfl, hc⟩ := h
  refine ⟨a, cap, by rw [ints_length], fun k hk => ?_⟩
  obtain ⟨b, off, rfl, hb, hc⟩ := hc (by intro e; have := ints_length zs; rw [e] at this; simp at this; omega)
  refine ⟨b, off, rfl, hb, fun j hj => ?_⟩
  rw [hc j (by rw [ints_length]; exact hj), ints_getD zs j hj]

/-- Bytes as values. -/
def bytesV (l : List UInt8) : List Value := l.map fun b => .int .u8 b.toNat
theorem bytesV_length (l : List UInt8) : (bytesV l).length = l.length := List.length_map _

theorem foldl_bytes : ∀ (l : List UInt8) (s : ByteArray), (l.map fun b => ((b.toNat : Nat) : Int)).foldl (fun r n => r.push (UInt8.ofNat n.toNat)) s = ⟨s.data ++ l.toArray⟩
  | [], s => by simp
  | b :: l, s => by
    rw [List.map_cons, List.foldl_cons, foldl_bytes l]
    have e : UInt8.ofNat (((b.toNat : Nat) : Int).toNat) = b := by simp
    rw [e]
    simp [ByteArray.push]

/-- 'string(bytes)'. -/
theorem run_string_cells {P : Program} {w : World} {src dst e : TypeId} (hs : P.underlying src = some (.slice e)) (he : P.underlying e = some (.int .u8)) (hd : P.underlying dst = some .string)
    {v : Value} {l : List UInt8} (h : Cells w v (bytesV l)) : (convert src dst v).run P w = .ok (.string ⟨l.toArray⟩) w := by
  obtain ⟨a, cap, rfl, hc⟩ := h
  rw [run_convert_bytes_string w src dst e a _ cap hs he hd]
  by_cases hl : l = []
  · subst hl
    cases a with
    | none => rfl
    | some a =>
      have h0 := run_bytesToString (P := P) w a 0 cap [] (by simp [loadCells, loadCellsFrom])
      rw [show (Value.slice (some a) (bytesV []).length cap) = .slice (some a) 0 cap from rfl, h0]; rfl
  · obtain ⟨b, off, rfl, hb, hc⟩ := hc (by intro e; exact hl (by simpa [bytesV] using e))
    have h0 := run_bytesToString (P := P) w ⟨b, off, none⟩ (bytesV l).length cap (l.map fun b => ((b.toNat : Nat) : Int)) (by
      have := run_loadCells_list (P := P) w ⟨b, off, none⟩ (bytesV l) (fun j v hj => by
        have hlt : j < (bytesV l).length := by
          rcases Nat.lt_or_ge j (bytesV l).length with h | h
          · exact h
          · rw [List.getElem?_eq_none h] at hj; cases hj
        have := hc j hlt
        rw [List.getD, hj] at this
        have hadd : (⟨b, off, none⟩ : Addr).add j = ⟨b, off + j, none⟩ := by unfold Addr.add; split <;> simp_all
        rw [hadd, this]; rfl)
      rw [this]
      simp [bytesV, Function.comp_def])
    rw [h0, foldl_bytes]
    simp

/-- A block of the call's own, whole, read as a list. -/
theorem cells_of_block {w : World} {b off cap : Nat} {xs : List Value} (hb : b < w.heap.size) (hc : ∀ j, j < xs.length → w.cell? ⟨b, off + j, none⟩ = some (xs.getD j undef)) : Cells w (.slice (some ⟨b, off, none⟩) xs.length cap) xs :=
  ⟨_, cap, rfl, fun _ => ⟨b, off, rfl, hb, hc⟩⟩

/-- The block that was just laid. -/
theorem cells_alloc (w : World) (xs : Array Value) (e : TypeId) (cap : Nat) : Cells (w.alloc (.cells xs e)) (.slice (some ⟨w.heap.size, 0, none⟩) xs.size cap) xs.toList := by
  have h := cells_of_block (w := w.alloc (.cells xs e)) (b := w.heap.size) (off := 0) (cap := cap) (xs := xs.toList) (by simp) (fun j hj => by
    rw [World.cell?_alloc_at _ _ _ _ rfl]; simp at hj; simp [hj])
  simpa using h

theorem Cells.take {w : World} {a : Option Addr} {len cap n : Nat} {xs : List Value} (h : Cells w (.slice a len cap) xs) (hn : n ≤ len) : Cells w (.slice a n cap) (xs.take n) := by
  obtain ⟨a', cap', hv, hc⟩ := h
  injection hv with h1 h2 h3
  subst h1 h2 h3
  have hl : (xs.take n).length = n := by rw [List.length_take]; omega
  refine ⟨a, cap, by rw [hl], fun hne => ?_⟩
  obtain ⟨b, off, rfl, hb, hc⟩ := hc (by intro e; subst e; simp at hne)
  refine ⟨b, off, rfl, hb, fun j hj => ?_⟩
  rw [hl] at hj
  rw [hc j (by omega)]
  simp [List.getD, hj]

theorem ints_take (zs : List Int) (n : Nat) : (ints zs).take n = ints (zs.take n) := by unfold ints; rw [List.map_take]

/-- The value of a slice has this length. -/
theorem Cells.len {w : World} {a : Option Addr} {len cap : Nat} {xs : List Value} (h : Cells w (.slice a len cap) xs) : xs.length = len := by
  obtain ⟨a', cap', hv, _⟩ := h
  injection hv with _ h2 _
  exact h2.symm

/-- One cell of a slice. -/
theorem Cells.at {w : World} {a : Option Addr} {len cap : Nat} {xs : List Value} (h : Cells w (.slice a len cap) xs) (k : Nat) (hk : k < len) :
    ∃ b off, a = some ⟨b, off, none⟩ ∧ b < w.heap.size ∧ w.cell? ⟨b, off + k, none⟩ = some (xs.getD k undef) := by
  have hl := h.len
  obtain ⟨a', cap', hv, hc⟩ := h
  injection hv with h1 h2 h3
  subst h1 h3
  obtain ⟨b, off, rfl, hb, hc⟩ := hc (by intro e; subst e; simp at hl; omega)
  exact ⟨b, off, rfl, hb, hc k (by omega)⟩
theorem Cells.int_at {w : World} {a : Option Addr} {len cap : Nat} {zs : List Int} (h : Cells w (.slice a len cap) (ints zs)) (k : Nat) (hk : k < len) :
    ∃ b off, a = some ⟨b, off, none⟩ ∧ b < w.heap.size ∧ w.cell? ⟨b, off + k, none⟩ = some (.int .i64 (zs.getD k 0)) := by
  obtain ⟨b, off, h1, h2, h3⟩ := h.at k hk
  have hl := h.len
  rw [ints_length] at hl
  exact ⟨b, off, h1, h2, by rw [h3, ints_getD _ _ (by omega)]⟩
/-- The slice's shape, its length known. -/
theorem Cells.shape {w : World} {v : Value} {xs : List Value} (h : Cells w v xs) (n : Nat) (hn : xs.length = n) : ∃ a cap, v = .slice a n cap ∧ Cells w (.slice a n cap) xs := by
  obtain ⟨a, cap, rfl, hc⟩ := h
  subst hn
  exact ⟨a, cap, rfl, a, cap, rfl, hc⟩

theorem cells_of_heap {w : World} {g : Nat} {xs : Array Value} {e : TypeId} {fr : Nat × Nat} (h : w.heap[g]? = some (.cells xs e fr)) (cap : Nat) : Cells w (.slice (some ⟨g, 0, none⟩) xs.size cap) xs.toList := by
  have := cells_of_block (w := w) (b := g) (off := 0) (cap := cap) (xs := xs.toList) (Array.getElem?_eq_some_iff.1 h).1 (fun j hj => by
    rw [cell_of_row w g (0 + j) xs e fr h]; simp at hj; simp [hj])
  simpa using this

/-- 'string(b)' of a whole block of bytes. -/
theorem run_string_block {P : Program} {w : World} {src dst e : TypeId} (hs : P.underlying src = some (.slice e)) (he : P.underlying e = some (.int .u8)) (hd : P.underlying dst = some .string)
    {g n cap : Nat} {l : List UInt8} {t : TypeId} {fr : Nat × Nat} (h : w.heap[g]? = some (.cells (bytesV l).toArray t fr)) (hn : l.length = n) :
    (convert src dst (.slice (some ⟨g, 0, none⟩) n cap)).run P w = .ok (.string ⟨l.toArray⟩) w := by
  subst hn
  have := cells_of_heap h cap
  rw [List.size_toArray, bytesV_length] at this
  exact run_string_cells hs he hd this

theorem bytes_concat (a b : List UInt8) : (ByteArray.mk a.toArray) ++ (ByteArray.mk b.toArray) = ByteArray.mk (a ++ b).toArray := by
  apply ByteArray.ext
  rw [ByteArray.data_append]
  simp

theorem bsize (l : List UInt8) (n : Nat) (h : l.length = n) : (ByteArray.mk l.toArray).size = n := by subst h; rfl

theorem i64_join (i : Nat) (x y : Int) (hx0 : 0 ≤ x) (hx : x % 2 ^ i = 0) (hx1 : x < 2 ^ 63) (hy0 : 0 ≤ y) (hy : y < 2 ^ i) (hy1 : y < 2 ^ 63) : bits BinOp.or IntKind.i64 x y = x + y :=
  bits_join .i64 63 (by decide) (fun n h0 h1 => by rw [show (2 : Int) ^ 63 = 9223372036854775808 from by decide] at h1; rw [IntKind.wrap_i64]; omega) i x y hx0 hx hx1 hy0 hy hy1
/-- 'n<<1 | b'. -/
theorem i64_orBit (x b : Int) (h0 : 0 ≤ x) (h1 : x < 4611686018427387904) (b0 : 0 ≤ b) (b1 : b ≤ 1) : bits BinOp.or IntKind.i64 (x * 2) b = 2 * x + b := by
  have e : (2 : Int) ^ 63 = 9223372036854775808 := by decide
  rw [i64_join 1 (x * 2) b (by omega) (by omega) (by omega) b0 (by omega) (by omega)]; omega

/-- Between w and w' only blocks of S (and new ones) have turned. -/
structure Touch (S : Nat → Prop) (w w' : World) : Prop where
  os : w'.os = w.os
  tape : w'.tape = w.tape
  output : w'.output = w.output
  size : w.heap.size ≤ w'.heap.size
  block : ∀ k, k < w.heap.size → ¬ S k → w'.heap[k]? = w.heap[k]?

theorem Touch.refl (S : Nat → Prop) (w : World) : Touch S w w := ⟨rfl, rfl, rfl, Nat.le_refl _, fun _ _ _ => rfl⟩
theorem Touch.trans {S : Nat → Prop} {a b c : World} (h : Touch S a b) (k : Touch S b c) : Touch S a c :=
  ⟨k.os.trans h.os, k.tape.trans h.tape, k.output.trans h.output, Nat.le_trans h.size k.size, fun i hi hs => (k.block i (Nat.lt_of_lt_of_le hi h.size) hs).trans (h.block i hi hs)⟩
/-- The second step may touch what the first has made. -/
theorem Touch.then {S T : Nat → Prop} {a b c : World} (h : Touch S a b) (k : Touch T b c) (hT : ∀ i, T i → S i ∨ a.heap.size ≤ i) : Touch S a c :=
  ⟨k.os.trans h.os, k.tape.trans h.tape, k.output.trans h.output, Nat.le_trans h.size k.size, fun i hi hs =>
    (k.block i (Nat.lt_of_lt_of_le hi h.size) (fun ht => (hT i ht).elim hs (by omega))).trans (h.block i hi hs)⟩
theorem Touch.mono {S T : Nat → Prop} {a b : World} (h : Touch S a b) (hS : ∀ i, S i → T i ∨ a.heap.size ≤ i) : Touch T a b :=
  ⟨h.os, h.tape, h.output, h.size, fun i hi ht => h.block i hi (fun hs => (hS i hs).elim ht (by omega))⟩
theorem Touch.below {S : Nat → Prop} {a b : World} {B : Nat} (h : Touch S a b) (hS : ∀ i, S i → B ≤ i) (hB : B ≤ a.heap.size) : Below B a b :=
  ⟨h.os, h.tape, h.output, h.size, fun i hi => h.block i (by omega) (fun hs => by have := hS i hs; omega)⟩
theorem Touch.of_below {a b : World} (h : Below a.heap.size a b) (S : Nat → Prop) : Touch S a b := ⟨h.os, h.tape, h.output, h.size, fun i hi _ => h.block i hi⟩
theorem Touch.heap {S : Nat → Prop} {a b : World} (h : Touch S a b) {k : Nat} {o : Obj} (hk : a.heap[k]? = some o) (hs : ¬ S k) : b.heap[k]? = some o :=
  (h.block k (Array.getElem?_eq_some_iff.1 hk).1 hs).trans hk
theorem Touch.own {S : Nat → Prop} {a b : World} (h : Touch S a b) {base : Nat} {e : TypeId} {size : Nat} {v : Value} {n : Nat} {xs : List Value} (ho : a.ownsRow base e size v n xs) (hs : ∀ k, v.ownBlock = some k → ¬ S k) : b.ownsRow base e size v n xs := by
  refine ⟨ho.1, ?_⟩
  rcases ho.2 with hn | ⟨g, cap, cur, rfl, hb, hg, rest⟩
  · exact .inl hn
  · exact .inr ⟨g, cap, cur, rfl, hb, h.heap hg (hs g rfl), rest⟩
theorem Touch.cells {S : Nat → Prop} {a b : World} (h : Touch S a b) {v : Value} {xs : List Value} (hc : Cells a v xs) (hs : ∀ k, v.ownBlock = some k → ¬ S k) : Cells b v xs := by
  obtain ⟨ad, cap, rfl, hc⟩ := hc
  refine ⟨ad, cap, rfl, fun hne => ?_⟩
  obtain ⟨g, off, rfl, hbl, hc⟩ := hc hne
  refine ⟨g, off, rfl, Nat.lt_of_lt_of_le hbl h.size, fun j hj => ?_⟩
  rw [World.cell?_of_block (w := a) (w' := b) (a := ⟨g, off + j, none⟩) (h.block g hbl (hs g rfl))]; exact hc j hj
theorem Touch.setCell {S : Nat → Prop} (w : World) (a : Addr) (v : Value) (hs : S a.block) : Touch S w (w.setCell a v) :=
  ⟨rfl, rfl, rfl, by simp [World.setCell], fun k _ hk => Below.heap_setCell _ _ _ _ (fun e => hk (by rw [e]; exact hs))⟩
theorem Touch.drewN {S : Nat → Prop} (w : World) (n : Nat) : Touch S w (w.drewN n) := ⟨rfl, rfl, rfl, Nat.le_refl _, fun _ _ _ => rfl⟩
theorem Touch.alloc {S : Nat → Prop} (w : World) (o : Obj) : Touch S w (w.alloc o) := ⟨rfl, rfl, rfl, by simp, fun k hk _ => Below.heap_alloc _ _ _ hk⟩
theorem Touch.grown {w w' : World} {row : Option Nat} (h : w.grownBy w' row) : Touch (fun k => some k = row) w w' := ⟨h.os, h.tape, h.output, h.size, fun k hk hs => h.block k hk hs⟩

theorem wrap_u64 (n : Int) (h0 : 0 ≤ n) (h1 : n < 18446744073709551616) : IntKind.u64.wrap n = n := by
  simp [IntKind.wrap, IntKind.bits, IntKind.signed]; omega
/-- 'n<<8 | b' on a uint64. -/
theorem u64_shiftIn (n b : Nat) (hn : n < 72057594037927936) (hb : b < 256) : bits BinOp.or IntKind.u64 (IntKind.u64.wrap ((n : Int) * 256)) (IntKind.u64.wrap (b : Int)) = ((256 * n + b : Nat) : Int) := by
  rw [wrap_u64 _ (by omega) (by omega), wrap_u64 _ (by omega) (by omega)]
  have e : (2 : Int) ^ 64 = 18446744073709551616 := by decide
  have e8 : (2 : Int) ^ 8 = 256 := by decide
  rw [bits_join .u64 64 (by decide) (fun n h0 h1 => wrap_u64 n h0 (by omega)) 8 ((n : Int) * 256) b (by omega) (by omega) (by omega) (by omega) (by omega) (by omega)]
  omega

/-- The new slice lies where the old one lay, or in a new block. -/
def NewOrSame (w : World) (v v' : Value) : Prop := v'.ownBlock = v.ownBlock ∨ ∀ k, v'.ownBlock = some k → w.heap.size ≤ k

theorem NewOrSame.of_own {w w' : World} {v v' : Value} {e : TypeId} {size n : Nat} {xs : List Value} (h : w'.ownsRow w.heap.size e size v' n xs) : NewOrSame w v v' := .inr fun k hk => (h.lt k hk).1

theorem append_where {P : Program} {w w' : World} {base : Nat} {t ty e : TypeId} {i : TypeInfo} {z : Value} {size bytes : Nat} (ht : P.underlying t = some (.slice e)) (hi : P.info? e = some i) (hz : i.zero = some z)
    (hsize : i.size = size) (hby : i.bytes = bytes) (hzs : z.cells.size = size) (hsz : 0 < size)
    {v v' : Value} {n : Nat} {xs : List Value} (hown : w.ownsRow base e size v n xs)
    {a : Addr} {m c : Nat} {news : List Value} (hl : news.length = m * size) (hnews : ∀ j u, news[j]? = some u → w.cell? (a.add j) = some u) (h1 : ∀ u ∈ news, u.oneCell' = true)
    (h63 : n + m ≤ maxLen) (hbytes : (n + m) * bytes ≤ 140737488355328) (hr : (Builtin.append_ #[t, t] ty #[v, .slice (some a) m c]).run P w = .ok v' w') : NewOrSame w v v' := by
  rcases hown.2 with ⟨rfl, rfl⟩ | ⟨g, cap, cur, rfl, hbg, hg, hnc, hcm, hcs, htake⟩
  · have hx : xs = [] := List.eq_nil_of_length_eq_zero (by simpa using hown.1)
    subst hx
    obtain ⟨v2, w2, hr2, ho2, _, _⟩ := run_append_own (P := P) w w.heap.size t ty e i z size bytes ht hi hz hsize hby hzs hsz _ 0 [] (World.ownsRow_nil w _ e size) a m c news hl hnews h1 h63 hbytes (Nat.le_refl _)
    rw [hr] at hr2
    injection hr2 with e1 e2
    subst e1 e2
    exact NewOrSame.of_own ho2
  · subst hsize hby
    by_cases hroom : n + m ≤ cap
    · have hfit : n * i.size + news.length ≤ cur.size := by rw [hl, hcs, ← Nat.add_mul]; exact Nat.mul_le_mul_right _ hroom
      have hr2 := run_append_room (P := P) w t ty e i ht hi g n cap cur hg a m c news hl hnews h1 hroom hfit
      rw [hr] at hr2
      injection hr2 with e1 _
      subst e1
      exact .inl rfl
    · have holds : ∀ j u, xs[j]? = some u → w.cell? ((⟨g, 0, none⟩ : Addr).add j) = some u := hown.cells (g := g) rfl
      have hr2 := run_append_grow (P := P) w t ty e i z ht hi hz ⟨g, 0, none⟩ n cap xs hown.1 holds a m c news hl hnews (by omega) (by unfold maxLen at h63; omega) (growslice_fits (by omega) hbytes)
      rw [hr] at hr2
      injection hr2 with e1 _
      subst e1
      exact .inr fun k hk => by simp [Value.ownBlock] at hk; omega

theorem append_where_string {P : Program} {w w' : World} {base : Nat} {t u ty e : TypeId} {i : TypeInfo} (ht : P.underlying t = some (.slice e)) (hu : P.underlying u = some .string) (hi : P.info? e = some i) (hz : i.zero = some (.int .u8 0))
    (hsize : i.size = 1) (hby : i.bytes = 1) {v v' : Value} {n : Nat} {xs : List Value} (hown : w.ownsRow base e 1 v n xs) {s : ByteArray}
    (h63 : n + s.size ≤ maxLen) (hbytes : n + s.size ≤ 140737488355328) (hr : (Builtin.append_ #[t, u] ty #[v, .string s]).run P w = .ok v' w') : NewOrSame w v v' := by
  rcases hown.2 with ⟨rfl, rfl⟩ | ⟨g, cap, cur, rfl, hbg, hg, hnc, hcm, hcs, htake⟩
  · have hx : xs = [] := List.eq_nil_of_length_eq_zero (by simpa using hown.1)
    subst hx
    obtain ⟨v2, w2, hr2, ho2, _, _⟩ := Lib.run_append_own_string (P := P) w w.heap.size t u ty e i ht hu hi hz hsize hby _ 0 [] (World.ownsRow_nil w _ e 1) s h63 hbytes (Nat.le_refl _)
    rw [hr] at hr2
    injection hr2 with e1 e2
    subst e1 e2
    exact NewOrSame.of_own ho2
  · by_cases hroom : n + s.size ≤ cap
    · have hr2 := Lib.run_append_room_string (P := P) w t u ty e i ht hu hi hsize g n cap cur hg s hroom (by omega)
      rw [hr] at hr2
      injection hr2 with e1 _
      subst e1
      exact .inl rfl
    · have holds : ∀ j u, xs[j]? = some u → w.cell? ((⟨g, 0, none⟩ : Addr).add j) = some u := hown.cells (g := g) rfl
      have hr2 := Lib.run_append_grow_string (P := P) w t u ty e i (.int .u8 0) ht hu hi hz ⟨g, 0, none⟩ n cap xs (by rw [hsize]; exact hown.1) holds s (by omega) (by unfold maxLen at h63; omega) (growslice_fits (by omega) (by rw [hby]; omega))
      rw [hr] at hr2
      injection hr2 with e1 _
      subst e1
      exact .inr fun k hk => by simp [Value.ownBlock] at hk; omega

/-- 'out = append(out, x, y, ..)', with where the new slice lies. -/
theorem wpList_appW {P : Program} {ops : Array Oper} {rest : List Oper} {o : Oper} {a : Act} {Q : Exit → Act → World → Prop} {w : World} (hgd : o.guard = none) {s x : Operand} {t : TypeId}
    (ho : o.op = .call { callee := .builtin .append, args := #[s, x], argTypes := #[t, t] })
    {e : TypeId} {z : Value} {bytes : Nat} (ht : P.underlying t = some (.slice e)) (hinfo : (P.info? e).map (fun i => (i.zero, i.size, i.bytes)) = some (some z, 1, bytes)) (hzs : z.cells.size = 1)
    {base : Nat} {v : Value} {n c : Nat} (m : Nat) {xs : List Value} (hown : w.ownsRow base e 1 v n xs) (hs : a.eval s = v) {ys : Array Value} (hx : a.eval x = .slice (some ⟨w.heap.size, 0, none⟩) m c)
    (hm : ys.size = m) (hy : ∀ u ∈ ys.toList, u.oneCell' = true) (hb : (n + m) * bytes ≤ 140737488355328) (h63 : n + m ≤ maxLen) (hbase : base ≤ w.heap.size)
    (h : ∀ v' w', w'.ownsRow base e 1 v' (n + m) (xs ++ ys.toList) → w.grownBy w' v.ownBlock → NewOrSame w v v' → wpList P ops Q rest (a.put o.dst v') w') : wpList P ops Q (o :: rest) a (w.alloc (.cells ys e)) := by
  obtain ⟨i0, hi, hz0, hz1, hz2⟩ := info_parts hinfo
  refine wpList_plain hgd fun K hK => ?_
  have hl : ys.toList.length = m * 1 := by simp [hm]
  obtain ⟨v', w', hr, h2, h3, h4⟩ := run_append_own (P := P) (w.alloc (.cells ys e)) base t o.type e i0 z 1 bytes ht hi hz0 hz1 hz2 hzs (by decide) v n xs (hown.alloc _) ⟨w.heap.size, 0, none⟩ m c ys.toList hl (cells_newL _ _ _) hy h63 hb (by simp; omega)
  have hn := append_where ht hi hz0 hz1 hz2 hzs (by decide) (hown.alloc (.cells ys e)) hl (cells_newL _ _ _) hy h63 hb hr
  unfold Oper.wp execOp
  simp only [ho, resolve, invoke, builtin, Sem.run_bind, Sem.run_pure, Result.andThen_ok, List.map_toArray, List.map_cons, List.map_nil, hs, hx, hr]
  refine hK _ _ (h v' w' h2 (grownBy_of_alloc h3) ?_)
  rcases hn with hn | hn
  · exact .inl hn
  · exact .inr fun k hk => by have := hn k hk; simp at this; omega

/-- 'out = append(out, s...)', s a string. -/
theorem wpList_appS {P : Program} {ops : Array Oper} {rest : List Oper} {o : Oper} {a : Act} {Q : Exit → Act → World → Prop} {w : World} (hgd : o.guard = none) {sl x : Operand} {t u : TypeId}
    (ho : o.op = .call { callee := .builtin .append, args := #[sl, x], argTypes := #[t, u] })
    {e : TypeId} (ht : P.underlying t = some (.slice e)) (hu : P.underlying u = some .string) (hinfo : (P.info? e).map (fun i => (i.zero, i.size, i.bytes)) = some (some (.int .u8 0), 1, 1))
    {base : Nat} {v : Value} {n : Nat} {xs : List Value} (hown : w.ownsRow base e 1 v n xs) (hs : a.eval sl = v) {s : ByteArray} (hx : a.eval x = .string s)
    (hb : n + s.size ≤ 140737488355328) (h63 : n + s.size ≤ maxLen) (hbase : base ≤ w.heap.size)
    (h : ∀ v' w', w'.ownsRow base e 1 v' (n + s.size) (xs ++ Lib.strCells s) → w.grownBy w' v.ownBlock → NewOrSame w v v' → wpList P ops Q rest (a.put o.dst v') w') : wpList P ops Q (o :: rest) a w := by
  obtain ⟨i0, hi, hz0, hz1, hz2⟩ := info_parts hinfo
  refine wpList_plain hgd fun K hK => ?_
  obtain ⟨v', w', hr, h2, h3, h4⟩ := Lib.run_append_own_string (P := P) w base t u o.type e i0 ht hu hi hz0 hz1 hz2 v n xs hown s h63 hb hbase
  have hn := append_where_string ht hu hi hz0 hz1 hz2 hown h63 hb hr
  unfold Oper.wp execOp
  simp only [ho, resolve, invoke, builtin, Sem.run_bind, Sem.run_pure, Result.andThen_ok, List.map_toArray, List.map_cons, List.map_nil, hs, hx, hr]
  exact hK _ _ (h v' w' h2 h3 hn)

theorem strCells_bytes (s : ByteArray) : Lib.strCells s = bytesV s.data.toList := rfl

theorem i64_mask (i : Nat) (hi : i ≤ 63) (x : Int) (h0 : 0 ≤ x) (h1 : x < 2 ^ 63) : bits BinOp.and IntKind.i64 x (2 ^ i - 1) = x % 2 ^ i :=
  bits_mask .i64 63 (by decide) (fun n h0 h1 => by rw [show (2 : Int) ^ 63 = 9223372036854775808 from by decide] at h1; rw [IntKind.wrap_i64]; omega) i hi x h0 h1
theorem i64_and15 (x : Int) (h0 : 0 ≤ x) (h1 : x < 2 ^ 63) : bits BinOp.and IntKind.i64 x 15 = x % 16 := i64_mask 4 (by decide) x h0 h1

end Go.Proofs.YtcgkomafaepjnaaGreatDoor
namespace Go.Proofs.YtcgkomafaepjnaaGreatDoor
open Go.RowKit

/-- The bit i of a text, the highest bit of a byte first; a bit that it has not is 0. -/
def bitAt (l : List UInt8) (i : Nat) : Int := (((l.getD (i / 8) 0).toNat / 2 ^ (7 - i % 8) % 2 : Nat) : Int)
def bitI (l : List UInt8) (z : Int) : Int := if z < 0 then 0 else bitAt l z.toNat

theorem bitI_nat (l : List UInt8) (k : Nat) : bitI l (k : Int) = bitAt l k := by unfold bitI; rw [if_neg (by omega)]; rfl
theorem bitAt_bd (l : List UInt8) (k : Nat) : 0 ≤ bitAt l k ∧ bitAt l k ≤ 1 := by unfold bitAt; omega

theorem bitAt_past (l : List UInt8) (i : Nat) (h : 8 * l.length ≤ i) : bitAt l i = 0 := by
  unfold bitAt
  rw [List.getD_eq_getElem?_getD, List.getElem?_eq_none (by omega)]
  simp

theorem bitAt_walk (s : ByteArray) (k : Nat) (h : k / 8 < s.size) : bits BinOp.and IntKind.i64 (wrap64 (((s[k / 8]).toNat : Int) / 2 ^ (7 - k % 8))) 1 = bitAt s.data.toList k := by
  have hb := (s[k / 8]).toNat_lt
  have e1 : (((s[k / 8]).toNat : Int) / 2 ^ (7 - k % 8)) = (((s[k / 8]).toNat / 2 ^ (7 - k % 8) : Nat) : Int) := by simp
  have hle : (s[k / 8]).toNat / 2 ^ (7 - k % 8) ≤ (s[k / 8]).toNat := Nat.div_le_self _ _
  have e2 : (2 : Int) ^ 63 = 9223372036854775808 := by decide
  have e3 : s.data.toList.getD (k / 8) 0 = s[k / 8] := by
    rw [List.getD_eq_getElem?_getD, List.getElem?_eq_getElem (by simpa using h)]; rfl
  have e4 : (2 : Int) ^ 1 - 1 = 1 := by decide
  unfold bitAt
  rw [e3, e1]
  generalize (s[k / 8]).toNat / 2 ^ (7 - k % 8) = q at hle
  have e5 := i64_mask 1 (by decide) (q : Int) (by omega) (by omega)
  rw [IntWalk.wrap64_in _ (by omega)]
  rw [e4] at e5
  rw [e5]
  omega

set_option maxHeartbeats 400000 in
theorem bit_in (s : ByteArray) (k : Nat) (w : World) (hs : s.size ≤ 1152921504606846975) (hk : k < 8 * s.size) :
    Calls Tryz.prog 46 #[.string s, .int .i64 k] w fun e w' => e = .returned (.int .i64 (bitAt s.data.toList k)) ∧ w = w' := by
  have H := Lib.hid (bitAt_walk s k (by omega))
  go_enter Tryz.func46, Tryz.ntmps46
  go_wp2
  go_ret
  exact ⟨by rw [← H.out]; rfl, rfl⟩

theorem bit_out (s : ByteArray) (z : Int) (w : World) (hs : s.size ≤ 1152921504606846975) (hk : z < 0 ∨ 8 * s.size ≤ z) :
    Calls Tryz.prog 46 #[.string s, .int .i64 z] w fun e w' => e = .returned (.int .i64 0) ∧ w = w' := by
  by_cases h0 : z < 0
  · go_enter Tryz.func46, Tryz.ntmps46
    go_wp2
    go_ret
    exact ⟨rfl, rfl⟩
  · have h1 : 8 * (s.size : Int) ≤ z := by omega
    clear hk
    go_enter Tryz.func46, Tryz.ntmps46
    go_wp2
    go_ret
    exact ⟨rfl, rfl⟩

/-- bits.Bit, of whatever place. -/
theorem bit_any (s : ByteArray) (z : Int) (w : World) (hs : s.size ≤ 1152921504606846975) :
    Calls Tryz.prog 46 #[.string s, .int .i64 z] w fun e w' => e = .returned (.int .i64 (bitI s.data.toList z)) ∧ w = w' := by
  unfold bitI
  by_cases h0 : z < 0
  · rw [if_pos h0]; exact bit_out s z w hs (.inl h0)
  · rw [if_neg h0]
    by_cases h1 : 8 * (s.size : Int) ≤ z
    · rw [bitAt_past _ _ (by simp; omega)]; exact bit_out s z w hs (.inr h1)
    · obtain ⟨k, rfl⟩ := Int.eq_ofNat_of_zero_le (show 0 ≤ z by omega)
      exact bit_in s k w hs (by omega)

end Go.Proofs.YtcgkomafaepjnaaGreatDoor
namespace Go.Proofs.YtcgkomafaepjnaaGreatDoor
open Go.RowKit


/-- Are the first k bits alike? -/
def alikeTo (a b : List UInt8) : Nat → Bool
  | 0 => true
  | k + 1 => alikeTo a b k && (bitAt a k == bitAt b k)

theorem alikeTo_mono (a b : List UInt8) (k n : Nat) (h : k ≤ n) (hf : alikeTo a b k = false) : alikeTo a b n = false := by
  induction n with
  | zero => obtain rfl : k = 0 := by omega
            exact hf
  | succ n ih =>
    by_cases e : k = n + 1
    · subst e; exact hf
    · simp [alikeTo, ih (by omega)]

set_option maxHeartbeats 400000 in
set_option maxRecDepth 100000 in
theorem below_in (s t : ByteArray) (d : Int) (n : Nat) (w : World) (hs : s.size ≤ 1152921504606846975) (ht : t.size ≤ 1152921504606846975)
    (hd : (d < 0 ∧ n = 0) ∨ (0 ≤ d ∧ d ≤ 128 ∧ d = n) ∨ (128 < d ∧ n = 128)) :
    Calls Tryz.prog 59 #[.string s, .string t, .int .i64 d] w fun e w' => e = .returned (.bool (alikeTo s.data.toList t.data.toList n)) ∧ w = w' := by
  rcases hd with ⟨hd, hn⟩ | ⟨h0, h1, hn⟩ | ⟨hd, hn⟩
  · obtain ⟨n1, n2⟩ : n ≤ 0 ∧ 0 ≤ n := by omega
    clear hn
    go_enter Tryz.func59, Tryz.ntmps59
    go_wp2
    go_loop [11] (fun i => ∃ k : Nat, k ≤ n ∧ i = .int .i64 k ∧ alikeTo s.data.toList t.data.toList k = true) (fun i => n - (intOf i).toNat)
    case atStart => exact ⟨0, Nat.zero_le _, rfl, rfl⟩
    case round =>
      obtain ⟨k, hk, rfl, hal⟩ := hrel
      have Hal := Lib.hid hal
      clear hal
      by_cases hlt : k < n
      · omega
      · have hkn : k = n := by omega
        have Hf : Hid (alikeTo s.data.toList t.data.toList n = true) := by rw [← hkn]; exact Hal.out
        clear hkn
        go_wp2
        go_ret
        exact ⟨by rw [Hf.out]; rfl, rfl⟩
  · subst hn
    go_enter Tryz.func59, Tryz.ntmps59
    go_wp2
    go_loop [11] (fun i => ∃ k : Nat, k ≤ n ∧ i = .int .i64 k ∧ alikeTo s.data.toList t.data.toList k = true) (fun i => n - (intOf i).toNat)
    case atStart => exact ⟨0, Nat.zero_le _, rfl, rfl⟩
    case round =>
      obtain ⟨k, hk, rfl, hal⟩ := hrel
      have Hal := Lib.hid hal
      clear hal
      by_cases hlt : k < n
      · have s1 := Lib.hid (show alikeTo s.data.toList t.data.toList (k + 1) = (alikeTo s.data.toList t.data.toList k && (bitAt s.data.toList k == bitAt t.data.toList k)) from rfl)
        go_wp2_with fail
        refine (bit_any s k _ hs).mono ?_
        rintro e w' ⟨rfl, rfl⟩
        go_wp2_with fail
        refine (bit_any t k _ ht).mono ?_
        rintro e w' ⟨rfl, rfl⟩
        rw [bitI_nat, bitI_nat]
        by_cases hb : bitAt s.data.toList k = bitAt t.data.toList k
        · have hb' : (bitAt s.data.toList k != bitAt t.data.toList k) = false := by simp [hb]
          rw [beq_iff_eq.2 hb, Hal.out] at s1
          clear hb
          go_wp2
          go_round
          case rel => exact ⟨k + 1, by omega, by go_num, s1.out⟩
          case measure => simp [intOf]; omega
        · have hb' : (bitAt s.data.toList k != bitAt t.data.toList k) = true := by simp [hb]
          have hf := Lib.hid (alikeTo_mono s.data.toList t.data.toList (k + 1) n (by omega) (by rw [s1.out, beq_eq_false_iff_ne.2 hb, Bool.and_false]))
          clear hb
          go_wp2
          go_ret
          exact ⟨by rw [hf.out]; rfl, rfl⟩
      · obtain rfl : k = n := by omega
        go_wp2
        go_ret
        exact ⟨by rw [Hal.out]; rfl, rfl⟩
  · have Hn := Lib.hid hn
    clear hn
    go_enter Tryz.func59, Tryz.ntmps59
    go_wp2
    go_loop [11] (fun i => ∃ k : Nat, k ≤ n ∧ i = .int .i64 k ∧ alikeTo s.data.toList t.data.toList k = true) (fun i => n - (intOf i).toNat)
    case atStart => exact ⟨0, Nat.zero_le _, rfl, rfl⟩
    case round =>
      obtain ⟨k, hk, rfl, hal⟩ := hrel
      have Hal := Lib.hid hal
      clear hal hd
      have hk128 : k ≤ 128 := by rw [← Hn.out]; exact hk
      by_cases hlt : k < 128
      · have s1 := Lib.hid (show alikeTo s.data.toList t.data.toList (k + 1) = (alikeTo s.data.toList t.data.toList k && (bitAt s.data.toList k == bitAt t.data.toList k)) from rfl)
        go_wp2_with fail
        refine (bit_any s k _ hs).mono ?_
        rintro e w' ⟨rfl, rfl⟩
        go_wp2_with fail
        refine (bit_any t k _ ht).mono ?_
        rintro e w' ⟨rfl, rfl⟩
        rw [bitI_nat, bitI_nat]
        by_cases hb : bitAt s.data.toList k = bitAt t.data.toList k
        · have hb' : (bitAt s.data.toList k != bitAt t.data.toList k) = false := by simp [hb]
          rw [beq_iff_eq.2 hb, Hal.out] at s1
          clear hb
          go_wp2
          go_round
          case rel => exact ⟨k + 1, by rw [Hn.out]; omega, by go_num, s1.out⟩
          case measure => rw [Hn.out]; simp [intOf]; omega
        · have hb' : (bitAt s.data.toList k != bitAt t.data.toList k) = true := by simp [hb]
          have hf := Lib.hid (alikeTo_mono s.data.toList t.data.toList (k + 1) n (by rw [Hn.out]; omega) (by rw [s1.out, beq_eq_false_iff_ne.2 hb, Bool.and_false]))
          clear hb
          go_wp2
          go_ret
          exact ⟨by rw [hf.out]; rfl, rfl⟩
      · have hkn : k = n := by rw [Hn.out]; omega
        have Hf : Hid (alikeTo s.data.toList t.data.toList n = true) := by rw [← hkn]; exact Hal.out
        clear hkn
        go_wp2
        go_ret
        exact ⟨by rw [Hf.out]; rfl, rfl⟩
/-- How many bits it looks at. -/
def depthNat (d : Int) : Nat := (min (max d 0) 128).toNat
theorem below_any (s t : ByteArray) (d : Int) (w : World) (hs : s.size ≤ 1152921504606846975) (ht : t.size ≤ 1152921504606846975) :
    Calls Tryz.prog 59 #[.string s, .string t, .int .i64 d] w fun e w' => e = .returned (.bool (alikeTo s.data.toList t.data.toList (depthNat d))) ∧ w = w' := by
  refine below_in s t d _ w hs ht ?_
  unfold depthNat
  omega

end Go.Proofs.YtcgkomafaepjnaaGreatDoor
namespace Go.Proofs.YtcgkomafaepjnaaGreatDoor
open Go.RowKit


/-- How many noughts a byte begins with. -/
def lzOf (x : Nat) : Int := 8 - ((if x = 0 then 0 else Nat.log2 x + 1 : Nat) : Int)
theorem lz_tab (T : ByteArray) (h : ∀ x : Fin T.size, wrap64 (8 - wrap64 ((T[x.val]'x.isLt).toNat : Int)) = lzOf x.val) (x : Nat) (hx : x < T.size) :
    Ending.returned (.int .i64 (wrap64 (8 - wrap64 ((T[x]'hx).toNat : Int)))) = .returned (.int .i64 (lzOf x)) := by
  rw [h ⟨x, hx⟩]

set_option maxRecDepth 100000 in
theorem lz8_any (x : Nat) (w : World) (hx : x < 256) :
    Calls Tryz.prog 195 #[.int .u8 x] w fun e w' => e = .returned (.int .i64 (lzOf x)) ∧ w = w' := by
  go_enter Tryz.func195, Tryz.ntmps195
  go_wp2
  go_ret
  exact ⟨lz_tab _ (by decide +kernel) x _, rfl⟩

theorem byteBit (x i : Nat) : x / 2 ^ i % 2 = if x.testBit i then 1 else 0 := by
  rw [Nat.testBit_eq_decide_div_mod_eq]
  by_cases h : x / 2 ^ i % 2 = 1
  · simp [h]
  · have : x / 2 ^ i % 2 = 0 := by omega
    simp [this]

theorem xor_zero_eq (x y : Nat) (h : x ^^^ y = 0) : x = y := by
  apply Nat.eq_of_testBit_eq
  intro i
  have : (x ^^^ y).testBit i = false := by rw [h]; simp
  rw [Nat.testBit_xor] at this
  cases hx : x.testBit i <;> cases hy : y.testBit i <;> simp_all

/-- Two bytes that part, part at the first bit of their exclusive or. -/
theorem part_at (x y : Nat) (hx : x < 256) (hy : y < 256) (h : x ^^^ y ≠ 0) :
    Nat.log2 (x ^^^ y) ≤ 7 ∧ (∀ i, Nat.log2 (x ^^^ y) < i → x / 2 ^ i % 2 = y / 2 ^ i % 2) ∧ x / 2 ^ Nat.log2 (x ^^^ y) % 2 ≠ y / 2 ^ Nat.log2 (x ^^^ y) % 2 := by
  have hz : x ^^^ y < 256 := Nat.xor_lt_two_pow (n := 8) hx hy
  have hl : Nat.log2 (x ^^^ y) < 8 := (Nat.log2_lt h).2 hz
  refine ⟨by omega, fun i hi => ?_, ?_⟩
  · have : (x ^^^ y).testBit i = false := Nat.testBit_lt_two_pow ((Nat.log2_lt h).1 hi)
    rw [Nat.testBit_xor] at this
    rw [byteBit, byteBit]
    cases hx' : x.testBit i <;> cases hy' : y.testBit i <;> simp_all
  · have : (x ^^^ y).testBit (Nat.log2 (x ^^^ y)) = true := by
      generalize x ^^^ y = z at h
      rw [Nat.testBit_eq_decide_div_mod_eq]
      have h1 : 2 ^ Nat.log2 z ≤ z := Nat.log2_self_le h
      have h2 : z < 2 ^ (Nat.log2 z + 1) := Nat.lt_log2_self
      have h3 : z / 2 ^ Nat.log2 z = 1 := by
        apply Nat.div_eq_of_lt_le
        · omega
        · rw [Nat.pow_succ] at h2; omega
      simp [h3]
    rw [Nat.testBit_xor] at this
    rw [byteBit, byteBit]
    cases hx' : x.testBit (Nat.log2 (x ^^^ y)) <;> cases hy' : y.testBit (Nat.log2 (x ^^^ y)) <;> simp_all

theorem alikeTo_iff (a b : List UInt8) (n : Nat) : alikeTo a b n = true ↔ ∀ i, i < n → bitAt a i = bitAt b i := by
  induction n with
  | zero => simp [alikeTo]
  | succ n ih =>
    simp only [alikeTo, Bool.and_eq_true, beq_iff_eq, ih]
    constructor
    · intro ⟨h1, h2⟩ i hi
      by_cases e : i = n
      · subst e; exact h2
      · exact h1 i (by omega)
    · intro h; exact ⟨fun i hi => h i (by omega), h n (by omega)⟩

theorem alike_byte (a b : List UInt8) (k : Nat) (h : alikeTo a b (8 * k) = true) (he : a.getD k 0 = b.getD k 0) : alikeTo a b (8 * (k + 1)) = true := by
  rw [alikeTo_iff] at h ⊢
  intro i hi
  by_cases hlt : i < 8 * k
  · exact h i hlt
  · unfold bitAt
    rw [show i / 8 = k from by omega, he]

/-- Where the first byte that differs is k. -/
theorem alike_part (a b : List UInt8) (k : Nat) (h : alikeTo a b (8 * k) = true) (z : Nat) (hz : z = (a.getD k 0).toNat ^^^ (b.getD k 0).toNat) (h0 : z ≠ 0) :
    ∃ n : Nat, (n : Int) = 8 * k + lzOf z ∧ n < 8 * (k + 1) ∧ alikeTo a b n = true ∧ bitAt a n ≠ bitAt b n := by
  subst hz
  obtain ⟨h1, h2, h3⟩ := part_at _ _ (a.getD k 0).toNat_lt (b.getD k 0).toNat_lt h0
  generalize hl : Nat.log2 ((a.getD k 0).toNat ^^^ (b.getD k 0).toNat) = l at h1 h2 h3
  refine ⟨8 * k + (7 - l), ?_, by omega, ?_, ?_⟩
  · unfold lzOf; rw [if_neg h0, hl]; omega
  · rw [alikeTo_iff] at h ⊢
    intro i hi
    by_cases hlt : i < 8 * k
    · exact h i hlt
    · unfold bitAt
      rw [show i / 8 = k from by omega]
      have := h2 (7 - i % 8) (by omega)
      omega
  · unfold bitAt
    rw [show (8 * k + (7 - l)) / 8 = k from by omega, show 7 - (8 * k + (7 - l)) % 8 = l from by omega]
    omega

set_option maxHeartbeats 400000 in
/-- bits.Common: how many bits both begin with alike. -/
theorem common_any (s t : ByteArray) (m : Nat) (w : World) (hs : s.size = m) (ht : t.size = m) (hm : m ≤ 1000000) :
    Calls Tryz.prog 154 #[.string s, .string t] w fun e w' => ∃ n : Nat, e = .returned (.int .i64 n) ∧ n ≤ 8 * m ∧ alikeTo s.data.toList t.data.toList n = true ∧ (n < 8 * m → bitAt s.data.toList n ≠ bitAt t.data.toList n) ∧ ∃ q, w' = w.drewN q := by
  go_enter Tryz.func154, Tryz.ntmps154
  go_wp2
  go_loopw [14] (fun i W => (∃ n, W = w.drewN n) ∧ ∃ k : Nat, k ≤ m ∧ i = .int .i64 k ∧ alikeTo s.data.toList t.data.toList (8 * k) = true) (fun i _ => m - (intOf i).toNat)
  case atStart => exact ⟨⟨0, rfl⟩, 0, Nat.zero_le _, rfl, rfl⟩
  case round =>
    obtain ⟨⟨n, rfl⟩, k, hk, rfl, hal⟩ := hrel
    have Hal := Lib.hid hal
    clear hal
    by_cases hlt : k < m
    · have hks : k < s.size := by omega
      have hkt : k < t.size := by omega
      have hx := u8_xor_nat (s[k]).toNat (t[k]).toNat (s[k]).toNat_lt (t[k]).toNat_lt
      have hz : (s[k]).toNat ^^^ (t[k]).toNat < 256 := Nat.xor_lt_two_pow (n := 8) (s[k]).toNat_lt (t[k]).toNat_lt
      have e3 : s.data.toList.getD k 0 = s[k] := by
        rw [List.getD_eq_getElem?_getD, List.getElem?_eq_getElem (by simpa using hks)]; rfl
      have e4 : t.data.toList.getD k 0 = t[k] := by
        rw [List.getD_eq_getElem?_getD, List.getElem?_eq_getElem (by simpa using hkt)]; rfl
      have Hp := Lib.hid (alike_part s.data.toList t.data.toList k Hal.out ((s[k]).toNat ^^^ (t[k]).toNat) (by rw [e3, e4]))
      have Hb := Lib.hid (show (s[k]).toNat ^^^ (t[k]).toNat = 0 → alikeTo s.data.toList t.data.toList (8 * (k + 1)) = true from fun h => alike_byte _ _ k Hal.out (by rw [e3, e4]; exact UInt8.toNat_inj.1 (xor_zero_eq _ _ h)))
      clear e3 e4
      generalize (s[k]).toNat ^^^ (t[k]).toNat = z at hx hz Hp Hb
      by_cases h0 : z = 0
      · have Hc := Lib.hid (Hb.out h0)
        clear Hb
        subst h0
        go_wp2_with fail
        go_quiet (fail)
        go_wp2
        go_roundw
        case rel => exact ⟨⟨_, rfl⟩, k + 1, by omega, by go_num, Hc.out⟩
        case measure => simp [intOf]; omega
      · have h0' : ((z : Int) != 0) = true := by rw [bne_iff_ne]; omega
        have Hp := Lib.hid (Hp.out h0)
        clear h0
        go_wp2_with fail
        go_quiet (fail)
        go_wp2_with fail
        refine (lz8_any z _ hz).mono ?_
        rintro e w' ⟨rfl, rfl⟩
        have hlz : 0 ≤ lzOf z ∧ lzOf z ≤ 8 := by
          unfold lzOf
          by_cases e : z = 0
          · simp [e]
          · have := (Nat.log2_lt e).2 (show z < 2 ^ 8 from hz)
            rw [if_neg e]; omega
        obtain ⟨l0, l1⟩ := hlz
        go_wp2
        go_ret
        obtain ⟨n', hn1, hn2, hn3, hn4⟩ := Hp.out
        exact ⟨n', ret_int (by rw [hn1]), by omega, hn3, fun _ => hn4, _, rfl⟩
    · obtain rfl : k = m := by omega
      go_wp2
      go_ret
      exact ⟨8 * k, ret_int (by simp), Nat.le_refl _, Hal.out, fun h => absurd h (by omega), n, rfl⟩

end Go.Proofs.YtcgkomafaepjnaaGreatDoor
