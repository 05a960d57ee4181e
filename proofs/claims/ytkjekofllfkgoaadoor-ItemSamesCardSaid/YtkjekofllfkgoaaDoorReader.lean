/- octet.Reader's methods: what they hand back and what the reader holds then. Conditions: the reader is no nil one and lies in a block of its own. -/
import Derived.Test.YtkjekofllfkgoaaDoorRows
import Derived.Test.YtkjekofllfkgoaaDoorKit
import Derived.WalkLawsBesides
namespace Go.Proofs.YtkjekofllfkgoaaDoor
open Go.RowKit

/-- Block b is a reader that has s left and this error. -/
def Rd (w : World) (b : Nat) (s : ByteArray) (bad : Int) : Prop := w.heap[b]? = some (.cells #[.string s, .int .i64 bad] 94)
theorem Rd.s {w : World} {b : Nat} {s : ByteArray} {bad : Int} (h : Rd w b s bad) : w.cell? ⟨b, 0, none⟩ = some (.string s) := by rw [cell_of_row w b 0 _ _ _ h]; rfl
theorem Rd.e {w : World} {b : Nat} {s : ByteArray} {bad : Int} (h : Rd w b s bad) : w.cell? ⟨b, 1, none⟩ = some (.int .i64 bad) := by rw [cell_of_row w b 1 _ _ _ h]; rfl
theorem Rd.fr {w : World} {b : Nat} {s : ByteArray} {bad : Int} (h : Rd w b s bad) (i : Nat) : w.frozen? ⟨b, i, none⟩ = false := frozen_of_row w b i _ _ h
theorem Rd.set_e {w : World} {b : Nat} {s : ByteArray} {bad : Int} (h : Rd w b s bad) (z : Int) : Rd (w.setCell ⟨b, 1, none⟩ (.int .i64 z)) b s z := heap_setCell_same w b 1 _ _ _ h
theorem Rd.set_s {w : World} {b : Nat} {s : ByteArray} {bad : Int} (h : Rd w b s bad) (t : ByteArray) : Rd (w.setCell ⟨b, 0, none⟩ (.string t)) b t bad := heap_setCell_same w b 0 _ _ _ h
theorem Rd.touch {w w' : World} {b : Nat} {s : ByteArray} {bad : Int} {S : Nat → Prop} (h : Rd w b s bad) (ht : Touch S w w') (hs : ¬ S b) : Rd w' b s bad := ht.heap h hs

def rdForm (bad : Int) : Int := if bad = 0 then 4 else bad

theorem beq_false_of {a b : Int} (h : a ≠ b) : (a == b) = false := beq_eq_false_iff_ne.2 h

theorem form_any (b : Nat) (s : ByteArray) (bad : Int) (w : World) (h : Rd w b s bad) :
    Calls Tryd.prog 47 #[.pointer (some ⟨b, 0, none⟩)] w fun e w' => e = .returned (.tuple #[]) ∧ Rd w' b s (rdForm bad) ∧ Touch (· = b) w w' := by
  have he := h.e
  have hf := h.fr 1
  by_cases hb : bad = 0
  · subst hb
    go_enter Tryd.func47, Tryd.ntmps47
    go_wp2
    go_end0
    exact ⟨rfl, h.set_e 4, Touch.setCell _ _ _ rfl⟩
  · have hb' := beq_false_of hb
    have H := Lib.hid (show rdForm bad = bad from if_neg hb)
    clear hb
    go_enter Tryd.func47, Tryd.ntmps47
    go_wp2
    go_end0
    exact ⟨rfl, by rw [H.out]; exact h, Touch.refl _ _⟩

/-- What take hands back and leaves: the text, was it there, the rest, the error. -/
def tkT (s : ByteArray) (bad : Int) (n : Nat) : ByteArray := if bad = 0 ∧ n ≤ s.size then s.extract 0 n else ⟨#[]⟩
def tkOk (s : ByteArray) (bad : Int) (n : Nat) : Bool := decide (bad = 0 ∧ n ≤ s.size)
def tkS (s : ByteArray) (bad : Int) (n : Nat) : ByteArray := if bad = 0 ∧ n ≤ s.size then s.extract n s.size else s
def tkE (s : ByteArray) (bad : Int) (n : Nat) : Int := if bad = 0 then if n ≤ s.size then 0 else 3 else bad

theorem take_any (b : Nat) (s : ByteArray) (bad : Int) (n : Nat) (w : World) (h : Rd w b s bad) :
    Calls Tryd.prog 48 #[.pointer (some ⟨b, 0, none⟩), .int .i64 n] w fun e w' => e = .returned (.tuple #[.string (tkT s bad n), .bool (tkOk s bad n)]) ∧ Rd w' b (tkS s bad n) (tkE s bad n) ∧ Touch (· = b) w w' := by
  have hc := h.s
  have he := h.e
  have hf0 := h.fr 0
  have hf1 := h.fr 1
  by_cases hb : bad = 0
  · by_cases hn : n ≤ s.size
    · have H1 := Lib.hid (show tkT s bad n = s.extract 0 n from if_pos ⟨hb, hn⟩)
      have H2 := Lib.hid (show tkOk s bad n = true from decide_eq_true ⟨hb, hn⟩)
      have H3 := Lib.hid (show tkS s bad n = s.extract n s.size from if_pos ⟨hb, hn⟩)
      have H4 := Lib.hid (show tkE s bad n = 0 by unfold tkE; rw [if_pos hb, if_pos hn])
      subst hb
      go_enter Tryd.func48, Tryd.ntmps48
      go_wp2
      go_ret2
      exact ⟨by rw [H1.out, H2.out]; rfl, by rw [H3.out, H4.out]; exact h.set_s _, Touch.setCell _ _ _ rfl⟩
    · have H1 := Lib.hid (show tkT s bad n = ⟨#[]⟩ from if_neg (fun h => hn h.2))
      have H2 := Lib.hid (show tkOk s bad n = false from decide_eq_false (fun h => hn h.2))
      have H3 := Lib.hid (show tkS s bad n = s from if_neg (fun h => hn h.2))
      have H4 := Lib.hid (show tkE s bad n = 3 by unfold tkE; rw [if_pos hb, if_neg hn])
      subst hb
      go_enter Tryd.func48, Tryd.ntmps48
      go_wp2
      go_ret2
      exact ⟨by rw [H1.out, H2.out]; rfl, by rw [H3.out, H4.out]; exact h.set_e _, Touch.setCell _ _ _ rfl⟩
  · have H1 := Lib.hid (show tkT s bad n = ⟨#[]⟩ from if_neg (fun h => hb h.1))
    have H2 := Lib.hid (show tkOk s bad n = false from decide_eq_false (fun h => hb h.1))
    have H3 := Lib.hid (show tkS s bad n = s from if_neg (fun h => hb h.1))
    have H4 := Lib.hid (show tkE s bad n = bad from if_neg hb)
    have hb' : (bad != 0) = true := bne_iff_ne.2 hb
    clear hb
    go_enter Tryd.func48, Tryd.ntmps48
    go_wp2
    go_ret2
    exact ⟨by rw [H1.out, H2.out]; rfl, by rw [H3.out, H4.out]; exact h, Touch.refl _ _⟩

/-- The number of bytes, the highest first, modulo 2^64. -/
def numTo (s : ByteArray) : Nat → Nat
  | 0 => 0
  | k + 1 => 256 * numTo s k + (s.data.toList.getD k 0).toNat
theorem numTo_bd (s : ByteArray) (k : Nat) : numTo s k < 256 ^ k := by
  induction k with
  | zero => simp [numTo]
  | succ k ih =>
    have := (s.data.toList.getD k 0).toNat_lt
    simp only [numTo, Nat.pow_succ]; omega

/-- What Num hands back and leaves. -/
def nmN (s : ByteArray) (bad : Int) (z : Int) : Nat := if 1 ≤ z ∧ z ≤ 8 then numTo (tkT s bad z.toNat) (tkT s bad z.toNat).size else 0
def nmS (s : ByteArray) (bad : Int) (z : Int) : ByteArray := if 1 ≤ z ∧ z ≤ 8 then tkS s bad z.toNat else s
def nmE (s : ByteArray) (bad : Int) (z : Int) : Int := if 1 ≤ z ∧ z ≤ 8 then tkE s bad z.toNat else rdForm bad

theorem tkT_size (s : ByteArray) (bad : Int) (n : Nat) : (tkT s bad n).size ≤ n := by
  unfold tkT
  by_cases h : bad = 0 ∧ n ≤ s.size
  · rw [if_pos h]; simp; omega
  · rw [if_neg h]; exact Nat.zero_le _

theorem rdNum_in (b : Nat) (s : ByteArray) (bad : Int) (z : Nat) (w : World) (h : Rd w b s bad) (h1 : 1 ≤ z) (h8 : z ≤ 8) :
    Calls Tryd.prog 39 #[.pointer (some ⟨b, 0, none⟩), .int .i64 z] w fun e w' => e = .returned (.int .u64 (numTo (tkT s bad z) (tkT s bad z).size)) ∧ Rd w' b (tkS s bad z) (tkE s bad z) ∧ Touch (· = b) w w' := by
  have hts := tkT_size s bad z
  go_enter Tryd.func39, Tryd.ntmps39
  go_wp2_with fail
  refine (take_any b s bad z _ h).mono ?_
  rintro e w1 ⟨rfl, hr, ht⟩
  obtain ⟨t, ht0⟩ : ∃ t, t = tkT s bad z := ⟨_, rfl⟩
  rw [← ht0] at hts ⊢
  have HT := Lib.hid ht0
  clear ht0
  go_wp2_with fail
  go_loop [7, 25] (fun n i => ∃ k : Nat, k ≤ t.size ∧ i = .int .i64 k ∧ n = .int .u64 (numTo t k)) (fun _ i => t.size - (intOf i).toNat)
  case atStart => exact ⟨0, Nat.zero_le _, rfl, rfl⟩
  case round =>
    obtain ⟨k, hk, rfl, rfl⟩ := hrel
    by_cases hlt : k < t.size
    · have hb := numTo_bd t k
      have hp : 256 ^ k ≤ 256 ^ 7 := Nat.pow_le_pow_right (by decide) (by omega)
      have hn : numTo t k < 72057594037927936 := by have e : 256 ^ 7 = 72057594037927936 := by decide
                                                    omega
      clear hb hp
      have hB := u64_shiftIn (numTo t k) (t[k]).toNat hn (t[k]).toNat_lt
      have e3 : t.data.toList.getD k 0 = t[k] := by
        rw [List.getD_eq_getElem?_getD, List.getElem?_eq_getElem (by simpa using hlt)]; rfl
      have Hs := Lib.hid (show numTo t (k + 1) = 256 * numTo t k + (t[k]).toNat by rw [numTo, e3])
      clear e3 hn
      have HB := Lib.hid hB
      clear hB
      go_wp2
      go_round
      case rel => exact ⟨k + 1, by omega, by go_num, by rw [HB.out, Hs.out]⟩
      case measure => simp [intOf]; omega
    · obtain rfl : k = t.size := by omega
      go_wp2
      go_ret
      exact ⟨by rw [← HT.out]; rfl, hr, ht⟩

theorem rdNum_out (b : Nat) (s : ByteArray) (bad : Int) (z : Int) (w : World) (h : Rd w b s bad) (hz : z < 1 ∨ 8 < z) :
    Calls Tryd.prog 39 #[.pointer (some ⟨b, 0, none⟩), .int .i64 z] w fun e w' => e = .returned (.int .u64 0) ∧ Rd w' b s (rdForm bad) ∧ Touch (· = b) w w' := by
  have hcases : z < 1 ∨ (1 ≤ z ∧ 8 < z) := by omega
  clear hz
  rcases hcases with hz | ⟨h1, hz⟩
  all_goals
    go_enter Tryd.func39, Tryd.ntmps39
    go_wp2_with fail
    refine (form_any b s bad _ h).mono ?_
    rintro e w1 ⟨rfl, hr, ht⟩
    go_wp2
    go_ret
    exact ⟨rfl, hr, ht⟩

/-- Reader.Num, of whatever size. -/
theorem rdNum_any (b : Nat) (s : ByteArray) (bad : Int) (z : Int) (w : World) (h : Rd w b s bad) :
    Calls Tryd.prog 39 #[.pointer (some ⟨b, 0, none⟩), .int .i64 z] w fun e w' => e = .returned (.int .u64 (nmN s bad z)) ∧ Rd w' b (nmS s bad z) (nmE s bad z) ∧ Touch (· = b) w w' := by
  unfold nmN nmS nmE
  by_cases hz : 1 ≤ z ∧ z ≤ 8
  · rw [if_pos hz, if_pos hz, if_pos hz]
    obtain ⟨k, rfl⟩ := Int.eq_ofNat_of_zero_le (show 0 ≤ z by omega)
    exact rdNum_in b s bad k w h (by omega) (by omega)
  · rw [if_neg hz, if_neg hz, if_neg hz]
    exact rdNum_out b s bad z w h (by omega)

/-- What Fixed hands back and leaves. -/
def fxT (s : ByteArray) (bad : Int) (z : Int) : ByteArray := if 0 ≤ z then tkT s bad z.toNat else ⟨#[]⟩
def fxS (s : ByteArray) (bad : Int) (z : Int) : ByteArray := if 0 ≤ z then tkS s bad z.toNat else s
def fxE (s : ByteArray) (bad : Int) (z : Int) : Int := if 0 ≤ z then tkE s bad z.toNat else rdForm bad

theorem fixed_any (b : Nat) (s : ByteArray) (bad : Int) (z : Int) (w : World) (h : Rd w b s bad) :
    Calls Tryd.prog 49 #[.pointer (some ⟨b, 0, none⟩), .int .i64 z] w fun e w' => e = .returned (.string (fxT s bad z)) ∧ Rd w' b (fxS s bad z) (fxE s bad z) ∧ Touch (· = b) w w' := by
  unfold fxT fxS fxE
  by_cases hz : 0 ≤ z
  · rw [if_pos hz, if_pos hz, if_pos hz]
    obtain ⟨k, rfl⟩ := Int.eq_ofNat_of_zero_le hz
    go_enter Tryd.func49, Tryd.ntmps49
    go_wp2_with fail
    refine (take_any b s bad k _ h).mono ?_
    rintro e w1 ⟨rfl, hr, ht⟩
    go_wp2
    go_ret
    exact ⟨rfl, hr, ht⟩
  · rw [if_neg hz, if_neg hz, if_neg hz]
    go_enter Tryd.func49, Tryd.ntmps49
    go_wp2_with fail
    refine (form_any b s bad _ h).mono ?_
    rintro e w1 ⟨rfl, hr, ht⟩
    go_wp2
    go_ret
    exact ⟨rfl, hr, ht⟩

/-- What Text hands back and leaves. -/
def txN (s : ByteArray) (bad : Int) : Nat := nmN s bad 2
def txT (s : ByteArray) (bad : Int) : ByteArray := if txN s bad ≤ 4096 then fxT (nmS s bad 2) (nmE s bad 2) (txN s bad) else ⟨#[]⟩
def txS (s : ByteArray) (bad : Int) : ByteArray := if txN s bad ≤ 4096 then fxS (nmS s bad 2) (nmE s bad 2) (txN s bad) else nmS s bad 2
def txE (s : ByteArray) (bad : Int) : Int := if txN s bad ≤ 4096 then fxE (nmS s bad 2) (nmE s bad 2) (txN s bad) else rdForm (nmE s bad 2)

theorem text_any (b : Nat) (s : ByteArray) (bad : Int) (w : World) (h : Rd w b s bad) :
    Calls Tryd.prog 40 #[.pointer (some ⟨b, 0, none⟩)] w fun e w' => e = .returned (.string (txT s bad)) ∧ Rd w' b (txS s bad) (txE s bad) ∧ Touch (· = b) w w' := by
  unfold txT txS txE
  have HN := Lib.hid (show nmN s bad 2 = txN s bad from rfl)
  generalize txN s bad = n at HN
  by_cases hn : n ≤ 4096
  · have hw : wrap64 (n : Int) = n := IntWalk.wrap64_in _ (by omega)
    rw [if_pos hn, if_pos hn, if_pos hn]
    go_enter Tryd.func40, Tryd.ntmps40
    go_wp2_with fail
    refine (rdNum_any b s bad 2 _ h).mono ?_
    rintro e w1 ⟨rfl, hr, ht⟩
    rw [HN.out]
    go_wp2_with fail
    clear hw
    refine (fixed_any b _ _ n _ hr).mono ?_
    rintro e w2 ⟨rfl, hr2, ht2⟩
    go_wp2
    go_ret
    exact ⟨rfl, hr2, ht.trans ht2⟩
  · rw [if_neg hn, if_neg hn, if_neg hn]
    go_enter Tryd.func40, Tryd.ntmps40
    go_wp2_with fail
    refine (rdNum_any b s bad 2 _ h).mono ?_
    rintro e w1 ⟨rfl, hr, ht⟩
    rw [HN.out]
    go_wp2_with fail
    refine (form_any b _ _ _ hr).mono ?_
    rintro e w2 ⟨rfl, hr2, ht2⟩
    go_wp2
    go_ret
    exact ⟨rfl, hr2, ht.trans ht2⟩

/-- octet.Read. -/
theorem read_any (s : ByteArray) (w : World) :
    Calls Tryd.prog 29 #[.string s] w fun e w' => e = .returned (.pointer (some ⟨w.heap.size, 0, none⟩)) ∧ Rd w' w.heap.size s 0 ∧ Touch (fun _ => False) w w' := by
  go_enter Tryd.func29, Tryd.ntmps29
  go_wp2
  go_ret
  exact ⟨rfl, heap_alloc_new _ _, Touch.alloc _ _⟩

/-- What End says. -/
def endOf (s : ByteArray) (bad : Int) : Int := if bad = 0 then if s.size = 0 then 0 else 2 else bad
theorem end_any (b : Nat) (s : ByteArray) (bad : Int) (w : World) (h : Rd w b s bad) :
    Calls Tryd.prog 31 #[.pointer (some ⟨b, 0, none⟩)] w fun e w' => e = .returned (.int .i64 (endOf s bad)) ∧ w = w' := by
  have hc := h.s
  have he := h.e
  unfold endOf
  by_cases hb : bad = 0
  · subst hb
    rw [if_pos rfl]
    by_cases hz : s.size = 0
    · have hl : s.toList = [] := by rw [ByteArray.toList_eq]; apply List.eq_nil_of_length_eq_zero; simpa using hz
      have hl2 : s.toList.isEmpty = true := by rw [hl]; rfl
      rw [if_pos hz]
      clear hz hl
      go_enter Tryd.func31, Tryd.ntmps31
      go_wp2
      go_ret
      exact ⟨rfl, rfl⟩
    · have hl2 : s.toList.isEmpty = false := by rw [ByteArray.toList_eq, List.isEmpty_eq_false_iff]; intro e; exact hz (by have := congrArg List.length e; simpa using this)
      rw [if_neg hz]
      clear hz
      go_enter Tryd.func31, Tryd.ntmps31
      go_wp2
      go_ret
      exact ⟨rfl, rfl⟩
  · have hb' : (bad != 0) = true := bne_iff_ne.2 hb
    rw [if_neg hb]
    clear hb
    go_enter Tryd.func31, Tryd.ntmps31
    go_wp2
    go_ret
    exact ⟨rfl, rfl⟩

end Go.Proofs.YtkjekofllfkgoaaDoor
