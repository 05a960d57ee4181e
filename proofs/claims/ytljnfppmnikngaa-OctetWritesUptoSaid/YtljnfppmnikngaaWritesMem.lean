/- What OctetWrites' rounds leave of the memory. Conditions: none of a program. -/
import Derived.Test.YtljnfppmnikngaaWritesPlain
import Derived.Test.YtljnfppmnikngaaSpeaks02
namespace Go.Proofs.Ytljnfppmnikngaa.octetWrites
open Go.RowKit

def rowO (p : PartV) : Obj := .cells p.row.toArray 42

theorem Wr.lt {w : World} {b : Nat} {v : Value} {l : List UInt8} {B : Int} (h : Wr w b v l B) : b < w.heap.size := by
  obtain ⟨ad, h⟩ := h; exact (Array.getElem?_eq_some_iff.1 h.blk).1
theorem Wr.own_lt {w : World} {b : Nat} {v : Value} {l : List UInt8} {B : Int} (h : Wr w b v l B) : ∀ k, v.ownBlock = some k → k < w.heap.size := by
  obtain ⟨ad, h⟩ := h; intro k hk; exact (h.own.lt k hk).2

/-- The part's copy stands behind a write. -/
theorem x_stays {w w3 : World} {b : Nat} {v : Value} {l : List UInt8} {B : Int} {o : Obj} (h : Wr w b v l B) (ht : Touch (BuS b v) (w.alloc o) w3) : w3.heap[w.heap.size]? = some o := by
  refine ht.heap (heap_alloc_new w o) ?_
  intro hs
  rcases hs with hs | hs
  · have := Wr.lt h; omega
  · have := Wr.own_lt h _ hs; omega

theorem wr_alloc {w : World} {b : Nat} {v : Value} {l : List UInt8} {B : Int} (h : Wr w b v l B) (o : Obj) : Wr (w.alloc o) b v l B :=
  h.touch (S := fun _ => False) (Touch.alloc w o) (fun h => h) (fun _ _ h => h)
theorem wr_below {w w' : World} {b : Nat} {v : Value} {l : List UInt8} {B : Int} (h : Wr w b v l B) (hb : Below w.heap.size w w') : Wr w' b v l B :=
  h.touch (S := fun _ => False) (Touch.of_below hb _) (fun h => h) (fun _ _ h => h)

theorem after_write {w wr w3 : World} {b : Nat} {v v' : Value} {o : Obj} (hT : Touch (fun _ => False) w wr) (hge : w.heap.size ≤ b) (hv : ∀ k, v.ownBlock = some k → w.heap.size ≤ k)
    (hT3 : Touch (BuS b v) (wr.alloc o) w3) (hN : NewOrSame (wr.alloc o) v v') : Touch (fun _ => False) w w3 ∧ ∀ k, v'.ownBlock = some k → w.heap.size ≤ k := by
  refine ⟨(hT.trans (Touch.alloc wr o)).then hT3 ?_, ?_⟩
  · intro i hi
    rcases hi with hi | hi
    · subst hi; exact .inr hge
    · exact .inr (hv i hi)
  · intro k hk
    rcases hN with h | h
    · rw [h] at hk; exact hv k hk
    · have := h k hk
      have h2 := hT.size
      have h3 : wr.heap.size ≤ (wr.alloc o).heap.size := by simp
      omega

theorem x_cells {w : World} {xb : Nat} {p : PartV} (h : w.heap[xb]? = some (rowO p)) :
    w.cell? ⟨xb, 0, none⟩ = some (.int .i64 p.what) ∧ w.cell? ⟨xb, 1, none⟩ = some (.int .u64 p.n) ∧ w.cell? ⟨xb, 2, none⟩ = some (.int .i64 p.size) ∧ w.cell? ⟨xb, 3, none⟩ = some (.string p.text) := by
  refine ⟨?_, ?_, ?_, ?_⟩
  · rw [cell_of_row w xb 0 _ _ _ h]; rfl
  · rw [cell_of_row w xb 1 _ _ _ h]; rfl
  · rw [cell_of_row w xb 2 _ _ _ h]; rfl
  · rw [cell_of_row w xb 3 _ _ _ h]; rfl

/-- What is known at the head of the first loop, and behind it. -/
structure Inv (w W : World) (b : Nat) (v : Value) (qs : List PartV) (L l : List UInt8) (B : Int) : Prop where
  acc : accP qs = (L, B)
  wr : Wr W b v l B
  same : B = 0 → l = L
  le : l.length ≤ L.length
  len : L.length ≤ qs.length * 1048584
  own : ∀ k, v.ownBlock = some k → w.heap.size ≤ k
  touch : Touch (fun _ => False) w W

theorem bytesV_flat (a b : List UInt8) : (ByteArray.mk a.toArray) ++ (ByteArray.mk b.toArray) = ByteArray.mk (a ++ b).toArray := bytes_concat a b

section
variable {w wr w3 w4 : World} {b : Nat} {v v' : Value} {qs : List PartV} {L l : List UInt8} {B : Int} {p : PartV}

/-- One round: what was written is told by the function's own words. -/
theorem Inv.next (h : Inv w wr b v qs L l B) (hge : w.heap.size ≤ b) (hp : p.text.size ≤ 1048576) {l' : List UInt8} {B' : Int} {L' : List UInt8}
    (hst : stepP (L, B) p = (L', B')) (hW : Wr w3 b v' l' B') (hsame : B' = 0 → l' = L') (hle : l'.length ≤ L'.length)
    (hT3 : Touch (BuS b v) (wr.alloc (rowO p)) w3) (hN : NewOrSame (wr.alloc (rowO p)) v v') (hb : Below w3.heap.size w3 w4) : Inv w w4 b v' (qs ++ [p]) L' l' B' := by
  obtain ⟨t, o⟩ := after_write h.touch hge h.own hT3 hN
  refine ⟨by rw [acc_snoc, h.acc, hst], wr_below hW hb, hsame, hle, ?_, o, t.trans (Touch.of_below hb _)⟩
  have h1 := h.len
  have h2 := pS_len p
  rw [List.length_append]
  unfold stepP at hst
  split at hst
  · have := congrArg (fun x => x.1.length) hst
    simp at this
    have e : [p].length = 1 := rfl
    rw [e]; omega
  · have := congrArg (fun x => x.1.length) hst
    simp at this
    have e : [p].length = 1 := rfl
    rw [e]; omega

/-- .. the three acts, each by its case. -/
theorem wn_next (h : Inv w wr b v qs L l B) (hge : w.heap.size ≤ b) (hp : p.text.size ≤ 1048576) (hk : (kq p.what == 0) = true)
    (hW : Wr w3 b v' (wnL l B p.n p.size) (flBad (okNum p.n p.size) B 10)) (hT3 : Touch (BuS b v) (wr.alloc (rowO p)) w3) (hN : NewOrSame (wr.alloc (rowO p)) v v') (hb : Below w3.heap.size w3 w4) :
    Inv w w4 b v' (qs ++ [p]) (if B = 0 then L ++ refBytes p.n p.size else L) (wnL l B p.n p.size) (if B = 0 then (if okNum p.n p.size = true then 0 else 10) else B) := by
  have eS : pS p = refBytes p.n p.size := by unfold pS; rw [if_pos hk]
  have eE : pE p = if okNum p.n p.size = true then 0 else 10 := by unfold pE; rw [if_pos hk]
  rw [flBad_if] at hW
  refine h.next hge hp ?_ hW ?_ ?_ hT3 hN hb
  · unfold stepP; split <;> simp_all
  · intro hB'
    by_cases e : B = 0
    · have := h.same e
      subst e this
      unfold wnL refBytes
      by_cases ho : okNum p.n p.size = true
      · simp [ho]
      · simp [ho] at hB'
    · rw [if_neg e] at hB'; exact absurd hB' e
  · have := h.le
    by_cases e : B = 0
    · unfold wnL refBytes
      by_cases ho : okNum p.n p.size = true
      · simp [ho, e]; omega
      · simp [ho, e]; omega
    · unfold wnL; simp [e]; omega

theorem wt_next (h : Inv w wr b v qs L l B) (hge : w.heap.size ≤ b) (hp : p.text.size ≤ 1048576) (hk0 : (kq p.what == 0) = false) (hk : (kq p.what == 1) = true)
    (hW : Wr w3 b v' (wtL l B p.text) (flBad (okText p.text) B 2)) (hT3 : Touch (BuS b v) (wr.alloc (rowO p)) w3) (hN : NewOrSame (wr.alloc (rowO p)) v v') (hb : Below w3.heap.size w3 w4) :
    Inv w w4 b v' (qs ++ [p]) (if B = 0 then L ++ (refBytes p.text.size 2 ++ p.text.data.toList) else L) (wtL l B p.text) (if B = 0 then (if okText p.text = true then 0 else 2) else B) := by
  have eS : pS p = refBytes p.text.size 2 ++ p.text.data.toList := by unfold pS; rw [if_neg (by rw [hk0]; decide), if_pos hk]
  have eE : pE p = if okText p.text = true then 0 else 2 := by unfold pE; rw [if_neg (by rw [hk0]; decide), if_pos hk]
  have hL : wtL l B p.text = if okText p.text = true ∧ B = 0 then l ++ bytesTo p.text.size 2 2 ++ p.text.data.toList else l := by unfold wtL okText; simp
  have hr : okText p.text = true → refBytes p.text.size 2 = bytesTo p.text.size 2 2 := by
    intro ho
    have hs : p.text.size ≤ 4096 := of_decide_eq_true ho
    have e2 : 256 ^ (2 : Int).toNat = 65536 := by decide
    exact if_pos (decide_eq_true ⟨by decide, by decide, by omega⟩)
  rw [flBad_if] at hW
  rw [hL] at hW ⊢
  clear hL
  generalize okText p.text = ok at hW eE hr
  refine h.next hge hp ?_ hW ?_ ?_ hT3 hN hb
  · unfold stepP; split <;> simp_all
  · intro hB'
    by_cases e : B = 0
    · have := h.same e
      subst e this
      cases ok
      · simp at hB'
      · rw [hr rfl]; simp
    · rw [if_neg e] at hB'; exact absurd hB' e
  · have := h.le
    by_cases e : B = 0
    · cases ok
      · simp [e]; omega
      · rw [hr rfl]; simp [e]; omega
    · simp [e]; omega

theorem wf_next (h : Inv w wr b v qs L l B) (hge : w.heap.size ≤ b) (hp : p.text.size ≤ 1048576) (hk0 : (kq p.what == 0) = false) (hk : (kq p.what == 1) = false)
    (hW : Wr w3 b v' (wfL l B p.text p.size) (flBad (okFixed p.text p.size) B 10)) (hT3 : Touch (BuS b v) (wr.alloc (rowO p)) w3) (hN : NewOrSame (wr.alloc (rowO p)) v v') :
    Inv w w3 b v' (qs ++ [p]) (if B = 0 then L ++ p.text.data.toList else L) (wfL l B p.text p.size) (if B = 0 then (if okFixed p.text p.size = true then 0 else 10) else B) := by
  have eS : pS p = p.text.data.toList := by unfold pS; rw [if_neg (by rw [hk0]; decide), if_neg (by rw [hk]; decide)]
  have eE : pE p = if okFixed p.text p.size = true then 0 else 10 := by unfold pE; rw [if_neg (by rw [hk0]; decide), if_neg (by rw [hk]; decide)]
  have hL : wfL l B p.text p.size = if okFixed p.text p.size = true ∧ B = 0 then l ++ p.text.data.toList else l := by unfold wfL okFixed; simp
  rw [flBad_if] at hW
  rw [hL] at hW ⊢
  clear hL
  generalize okFixed p.text p.size = ok at hW eE
  refine h.next hge hp ?_ hW ?_ ?_ hT3 hN (Below.refl _ _)
  · unfold stepP; split <;> simp_all
  · intro hB'
    by_cases e : B = 0
    · have := h.same e
      subst e this
      cases ok
      · simp at hB'
      · simp
    · rw [if_neg e] at hB'; exact absurd hB' e
  · have := h.le
    by_cases e : B = 0
    · cases ok <;> simp [e] <;> omega
    · simp [e]; omega
end

theorem inv_zero (w w1 : World) (h : Below w.heap.size w w1) : Inv w (w1.alloc (.cells #[.pointer none, .slice none 0 0, .int .i64 0] 40)) w1.heap.size (.slice none 0 0) [] [] [] 0 :=
  ⟨rfl, wr_zero w1, fun _ => rfl, Nat.le_refl _, Nat.le_refl _, (by intro k hk; cases hk), (Touch.of_below h _).trans (Touch.alloc _ _)⟩


theorem refR (n : Nat) (z : Int) : (ByteArray.mk (refBytes n z).toArray).size ≤ 8 := refBytes_len n z
theorem ok_text (s : ByteArray) : decide (4096 < (s.size : Int)) = !(okText s) := by
  unfold okText
  by_cases h : s.size ≤ 4096
  · rw [decide_eq_true h, decide_eq_false (by omega)]; rfl
  · rw [decide_eq_false h, decide_eq_true (by omega)]; rfl
theorem refNum_R (n : Nat) (z : Int) (R : ByteArray) (hR : Hid (ByteArray.mk (refBytes n z).toArray = R)) (hn : n < 18446744073709551616) (w : World) :
    Calls Try.prog 14 #[.int .u64 n, .int .i64 z] w fun e w' => e = .returned (.string R) ∧ Below w.heap.size w w' := by
  have := refNum_any n z w hn
  rw [show ByteArray.mk (refBytes n z).toArray = R from hR] at this
  exact this

theorem ref_empty (n : Nat) (z : Int) (_ : n < 18446744073709551616) : (ByteArray.mk (refBytes n z).toArray).toList.isEmpty = !(okNum n z) := by
  rw [ByteArray.toList_eq]
  unfold refBytes
  cases h : okNum n z
  · rfl
  · have h2 := of_decide_eq_true h
    have hl := bytesTo_le n z.toNat z.toNat
    simp only [if_true]
    cases e : bytesTo n z.toNat z.toNat with
    | nil => rw [e] at hl; simp at hl; omega
    | cons x r => rfl
/-- What a region that draws holds of the part's text, before and behind its call. -/
theorem keep0 {w3 : World} {xb : Nat} {s : ByteArray} (c : w3.cell? ⟨xb, 3, none⟩ = some (.string s)) : w3.drew.cell? ⟨xb, 3, none⟩ = some (.string s) ∧ Below w3.heap.size w3 w3.drew :=
  ⟨c, rfl, rfl, rfl, Nat.le_refl _, fun _ _ => rfl⟩
theorem keep1 {w3 w4 : World} {xb : Nat} {s : ByteArray} (c : w3.cell? ⟨xb, 3, none⟩ = some (.string s)) (hx : xb < w3.heap.size) (h : Below w3.drew.heap.size w3.drew w4) : w4.cell? ⟨xb, 3, none⟩ = some (.string s) ∧ Below w3.heap.size w3 w4 :=
  ⟨by rw [h.cell (p := ⟨xb, 3, none⟩) hx]; exact c, h.os, h.tape, h.output, h.size, h.block⟩

theorem bus_ge {n b : Nat} {v : Value} (hge : n ≤ b) (hv : ∀ k, v.ownBlock = some k → n ≤ k) : ∀ i, BuS b v i → False ∨ n ≤ i := by
  intro i hi
  rcases hi with hi | hi
  · exact .inr (by rw [hi]; exact hge)
  · exact .inr (hv i hi)

/-! ### Reading again -/
def XS (xb : Nat) (p : PartV) (W : World) : Prop := W.cell? ⟨xb, 1, none⟩ = some (.int .u64 p.n) ∧ W.cell? ⟨xb, 2, none⟩ = some (.int .i64 p.size) ∧ W.cell? ⟨xb, 3, none⟩ = some (.string p.text)
theorem xs_of {W : World} {xb : Nat} {p : PartV} (h : W.heap[xb]? = some (rowO p)) : XS xb p W := (x_cells h).2
theorem xs_drew {W : World} {xb : Nat} {p : PartV} (h : W.heap[xb]? = some (rowO p)) : XS xb p W.drew := xs_of (W := W.drew) h
theorem xs_touch {W w' : World} {xb rb : Nat} {p : PartV} (h : W.heap[xb]? = some (rowO p)) (hne : ¬ xb = rb) (ht : Touch (· = rb) W w') : XS xb p w' := xs_of (ht.heap h hne)

theorem rd_num {W : World} {rb : Nat} {p : PartV} {rest : List UInt8} (hr : Rd W rb ⟨(pS p ++ rest).toArray⟩ 0) (hk : (kq p.what == 0) = true) (he : pE p = 0) :
    Calls Try.prog 8 #[.pointer (some ⟨rb, 0, none⟩), .int .i64 p.size] W.drew fun e w' => e = .returned (.int .u64 p.n) ∧ Rd w' rb ⟨rest.toArray⟩ 0 ∧ Touch (· = rb) W w' := by
  have eS : pS p = refBytes p.n p.size := by unfold pS; rw [if_pos hk]
  have ho : okNum p.n p.size = true := by
    unfold pE at he; rw [if_pos hk] at he
    by_cases h : okNum p.n p.size = true
    · exact h
    · rw [if_neg h] at he; cases he
  rw [eS] at hr
  obtain ⟨f1, f2, f3⟩ := read_num p.n p.size rest ho
  refine (rdNum_any rb _ 0 p.size W.drew hr).mono fun e w' ⟨h1, h2, h3⟩ => ⟨by rw [h1, f1], by rw [f2, f3] at h2; exact h2, (Touch.drewN W 1).trans h3⟩
theorem rd_text {W : World} {rb : Nat} {p : PartV} {rest : List UInt8} (hr : Rd W rb ⟨(pS p ++ rest).toArray⟩ 0) (hk0 : (kq p.what == 0) = false) (hk : (kq p.what == 1) = true) (he : pE p = 0) :
    Calls Try.prog 9 #[.pointer (some ⟨rb, 0, none⟩)] W.drew fun e w' => e = .returned (.string p.text) ∧ Rd w' rb ⟨rest.toArray⟩ 0 ∧ Touch (· = rb) W w' := by
  have eS : pS p = refBytes p.text.size 2 ++ p.text.data.toList := by unfold pS; rw [if_neg (by rw [hk0]; decide), if_pos hk]
  have ho : okText p.text = true := by
    unfold pE at he; rw [if_neg (by rw [hk0]; decide), if_pos hk] at he
    by_cases h : okText p.text = true
    · exact h
    · rw [if_neg h] at he; cases he
  rw [eS] at hr
  obtain ⟨f1, f2, f3⟩ := read_text p.text rest ho
  refine (text_any rb _ 0 W.drew hr).mono fun e w' ⟨h1, h2, h3⟩ => ⟨by rw [h1, f1], by rw [f2, f3] at h2; exact h2, (Touch.drewN W 1).trans h3⟩
theorem rd_fixed {W : World} {rb : Nat} {p : PartV} {rest : List UInt8} (hr : Rd W rb ⟨(pS p ++ rest).toArray⟩ 0) (hk0 : (kq p.what == 0) = false) (hk : (kq p.what == 1) = false) (he : pE p = 0) :
    Calls Try.prog 11 #[.pointer (some ⟨rb, 0, none⟩), .int .i64 p.size] W.drew fun e w' => e = .returned (.string p.text) ∧ Rd w' rb ⟨rest.toArray⟩ 0 ∧ Touch (· = rb) W w' := by
  have eS : pS p = p.text.data.toList := by unfold pS; rw [if_neg (by rw [hk0]; decide), if_neg (by rw [hk]; decide)]
  have ho : okFixed p.text p.size = true := by
    unfold pE at he; rw [if_neg (by rw [hk0]; decide), if_neg (by rw [hk]; decide)] at he
    by_cases h : okFixed p.text p.size = true
    · exact h
    · rw [if_neg h] at he; cases he
  rw [eS] at hr
  obtain ⟨f1, f2, f3⟩ := read_fixed p.text p.size rest ho
  refine (fixed_any rb _ 0 p.size W.drew hr).mono fun e w' ⟨h1, h2, h3⟩ => ⟨by rw [h1, f1], by rw [f2, f3] at h2; exact h2, (Touch.drewN W 1).trans h3⟩

theorem end_zero : endOf ⟨(([] : List PartV).flatMap pS).toArray⟩ 0 = 0 := rfl
theorem rd_alloc {W : World} {rb : Nat} {s : ByteArray} {B : Int} (h : Rd W rb s B) (o : Obj) : Rd (W.alloc o) rb s B := (Touch.alloc (S := fun _ => False) W o).heap h (fun h => h)
theorem rd_lt {W : World} {rb : Nat} {s : ByteArray} {B : Int} (h : Rd W rb s B) : rb < W.heap.size := (Array.getElem?_eq_some_iff.1 h).1

end Go.Proofs.Ytljnfppmnikngaa.octetWrites
