/- octet.Reader's methods: what they hand back and what the reader holds then. Conditions: the reader is no nil one and lies in a block of its own. | What octet.Reader's methods hand back, case by case. Conditions: none of a program. | Package logbook: a sector of noughts is no record's. Conditions: none. | Package logbook: a book of noughts is read: no record. Conditions: none. | Package logbook: a book is opened on sectors of noughts. Conditions: none. -/
import Derived.Test.YtcgkomafaepjnaaGreatDoorRows
import Derived.Test.YtcgkomafaepjnaaGreatDoorTB1
import Derived.WalkLawsBesides
import Derived.Lib.Strings
import Derived.Test.YtcgkomafaepjnaaGreatDoorTB10
namespace Go.Proofs.YtcgkomafaepjnaaGreatDoor
open Go.RowKit

/-- Block b is a reader that has s left and this error. -/
def Rd (w : World) (b : Nat) (s : ByteArray) (bad : Int) : Prop := w.heap[b]? = some (.cells #[.string s, .int .i64 bad] 284)
theorem Rd.s {w : World} {b : Nat} {s : ByteArray} {bad : Int} (h : Rd w b s bad) : w.cell? ⟨b, 0, none⟩ = some (.string s) := by rw [cell_of_row w b 0 _ _ _ h]; rfl
theorem Rd.e {w : World} {b : Nat} {s : ByteArray} {bad : Int} (h : Rd w b s bad) : w.cell? ⟨b, 1, none⟩ = some (.int .i64 bad) := by rw [cell_of_row w b 1 _ _ _ h]; rfl
theorem Rd.fr {w : World} {b : Nat} {s : ByteArray} {bad : Int} (h : Rd w b s bad) (i : Nat) : w.frozen? ⟨b, i, none⟩ = false := frozen_of_row w b i _ _ h
theorem Rd.set_e {w : World} {b : Nat} {s : ByteArray} {bad : Int} (h : Rd w b s bad) (z : Int) : Rd (w.setCell ⟨b, 1, none⟩ (.int .i64 z)) b s z := heap_setCell_same w b 1 _ _ _ h
theorem Rd.set_s {w : World} {b : Nat} {s : ByteArray} {bad : Int} (h : Rd w b s bad) (t : ByteArray) : Rd (w.setCell ⟨b, 0, none⟩ (.string t)) b t bad := heap_setCell_same w b 0 _ _ _ h
theorem Rd.touch {w w' : World} {b : Nat} {s : ByteArray} {bad : Int} {S : Nat → Prop} (h : Rd w b s bad) (ht : Touch S w w') (hs : ¬ S b) : Rd w' b s bad := ht.heap h hs

def rdForm (bad : Int) : Int := if bad = 0 then 4 else bad

theorem beq_false_of {a b : Int} (h : a ≠ b) : (a == b) = false := beq_eq_false_iff_ne.2 h

theorem form_any (b : Nat) (s : ByteArray) (bad : Int) (w : World) (h : Rd w b s bad) :
    Calls Tryz.prog 187 #[.pointer (some ⟨b, 0, none⟩)] w fun e w' => e = .returned (.tuple #[]) ∧ Rd w' b s (rdForm bad) ∧ Touch (· = b) w w' := by
  have he := h.e
  have hf := h.fr 1
  by_cases hb : bad = 0
  · subst hb
    go_enter Tryz.func187, Tryz.ntmps187
    go_wp2
    go_end0
    exact ⟨rfl, h.set_e 4, Touch.setCell _ _ _ rfl⟩
  · have hb' := beq_false_of hb
    have H := Lib.hid (show rdForm bad = bad from if_neg hb)
    clear hb
    go_enter Tryz.func187, Tryz.ntmps187
    go_wp2
    go_end0
    exact ⟨rfl, by rw [H.out]; exact h, Touch.refl _ _⟩

/-- What take hands back and leaves: the text, was it there, the rest, the error. -/
def tkT (s : ByteArray) (bad : Int) (n : Nat) : ByteArray := if bad = 0 ∧ n ≤ s.size then s.extract 0 n else ⟨#[]⟩
def tkOk (s : ByteArray) (bad : Int) (n : Nat) : Bool := decide (bad = 0 ∧ n ≤ s.size)
def tkS (s : ByteArray) (bad : Int) (n : Nat) : ByteArray := if bad = 0 ∧ n ≤ s.size then s.extract n s.size else s
def tkE (s : ByteArray) (bad : Int) (n : Nat) : Int := if bad = 0 then if n ≤ s.size then 0 else 3 else bad

theorem take_any (b : Nat) (s : ByteArray) (bad : Int) (n : Nat) (w : World) (h : Rd w b s bad) :
    Calls Tryz.prog 188 #[.pointer (some ⟨b, 0, none⟩), .int .i64 n] w fun e w' => e = .returned (.tuple #[.string (tkT s bad n), .bool (tkOk s bad n)]) ∧ Rd w' b (tkS s bad n) (tkE s bad n) ∧ Touch (· = b) w w' := by
  have hc := h.s
  have he := h.e
  have hf0 := h.fr 0
  have hf1 := h.fr 1
  by_cases hb : bad = 0
  · by_cases hn : n ≤ s.size
    · have H1 := Lib.hid (show tkT s bad n = s.extract 0 n from if_pos ⟨hb, hn⟩)
      have H2 := Lib.hid (show tkOk s bad n = true from decide_eq_true ⟨hb, hn⟩)
      have H3 := Lib.hid (show tkS s bad n = s.extract n s.size from if_pos ⟨hb, hn⟩)
      have H4 := Lib.hid (show tkE s bad n = 0 by unfold tkE; rw [if_pos hb, if_pos hn])
      subst hb
      go_enter Tryz.func188, Tryz.ntmps188
      go_wp2
      go_ret2
      exact ⟨by rw [H1.out, H2.out]; rfl, by rw [H3.out, H4.out]; exact h.set_s _, Touch.setCell _ _ _ rfl⟩
    · have H1 := Lib.hid (show tkT s bad n = ⟨#[]⟩ from if_neg (fun h => hn h.2))
      have H2 := Lib.hid (show tkOk s bad n = false from decide_eq_false (fun h => hn h.2))
      have H3 := Lib.hid (show tkS s bad n = s from if_neg (fun h => hn h.2))
      have H4 := Lib.hid (show tkE s bad n = 3 by unfold tkE; rw [if_pos hb, if_neg hn])
      subst hb
      go_enter Tryz.func188, Tryz.ntmps188
      go_wp2
      go_ret2
      exact ⟨by rw [H1.out, H2.out]; rfl, by rw [H3.out, H4.out]; exact h.set_e _, Touch.setCell _ _ _ rfl⟩
  · have H1 := Lib.hid (show tkT s bad n = ⟨#[]⟩ from if_neg (fun h => hb h.1))
    have H2 := Lib.hid (show tkOk s bad n = false from decide_eq_false (fun h => hb h.1))
    have H3 := Lib.hid (show tkS s bad n = s from if_neg (fun h => hb h.1))
    have H4 := Lib.hid (show tkE s bad n = bad from if_neg hb)
    have hb' : (bad != 0) = true := bne_iff_ne.2 hb
    clear hb
    go_enter Tryz.func188, Tryz.ntmps188
    go_wp2
    go_ret2
    exact ⟨by rw [H1.out, H2.out]; rfl, by rw [H3.out, H4.out]; exact h, Touch.refl _ _⟩

/-- The number of bytes, the highest first, modulo 2^64. -/
def numTo (s : ByteArray) : Nat → Nat
  | 0 => 0
  | k + 1 => 256 * numTo s k + (s.data.toList.getD k 0).toNat
theorem numTo_bd (s : ByteArray) (k : Nat) : numTo s k < 256 ^ k := by
  induction k with
  | zero => simp [numTo]
  | succ k ih =>
    have := (s.data.toList.getD k 0).toNat_lt
    simp only [numTo, Nat.pow_succ]; omega

/-- What Num hands back and leaves. -/
def nmN (s : ByteArray) (bad : Int) (z : Int) : Nat := if 1 ≤ z ∧ z ≤ 8 then numTo (tkT s bad z.toNat) (tkT s bad z.toNat).size else 0
def nmS (s : ByteArray) (bad : Int) (z : Int) : ByteArray := if 1 ≤ z ∧ z ≤ 8 then tkS s bad z.toNat else s
def nmE (s : ByteArray) (bad : Int) (z : Int) : Int := if 1 ≤ z ∧ z ≤ 8 then tkE s bad z.toNat else rdForm bad

theorem tkT_size (s : ByteArray) (bad : Int) (n : Nat) : (tkT s bad n).size ≤ n := by
  unfold tkT
  by_cases h : bad = 0 ∧ n ≤ s.size
  · rw [if_pos h]; simp; omega
  · rw [if_neg h]; exact Nat.zero_le _

theorem rdNum_in (b : Nat) (s : ByteArray) (bad : Int) (z : Nat) (w : World) (h : Rd w b s bad) (h1 : 1 ≤ z) (h8 : z ≤ 8) :
    Calls Tryz.prog 143 #[.pointer (some ⟨b, 0, none⟩), .int .i64 z] w fun e w' => e = .returned (.int .u64 (numTo (tkT s bad z) (tkT s bad z).size)) ∧ Rd w' b (tkS s bad z) (tkE s bad z) ∧ Touch (· = b) w w' := by
  have hts := tkT_size s bad z
  go_enter Tryz.func143, Tryz.ntmps143
  go_wp2_with fail
  refine (take_any b s bad z _ h).mono ?_
  rintro e w1 ⟨rfl, hr, ht⟩
  obtain ⟨t, ht0⟩ : ∃ t, t = tkT s bad z := ⟨_, rfl⟩
  rw [← ht0] at hts ⊢
  have HT := Lib.hid ht0
  clear ht0
  go_wp2_with fail
  go_loop [7, 25] (fun n i => ∃ k : Nat, k ≤ t.size ∧ i = .int .i64 k ∧ n = .int .u64 (numTo t k)) (fun _ i => t.size - (intOf i).toNat)
  case atStart => exact ⟨0, Nat.zero_le _, rfl, rfl⟩
  case round =>
    obtain ⟨k, hk, rfl, rfl⟩ := hrel
    by_cases hlt : k < t.size
    · have hb := numTo_bd t k
      have hp : 256 ^ k ≤ 256 ^ 7 := Nat.pow_le_pow_right (by decide) (by omega)
      have hn : numTo t k < 72057594037927936 := by have e : 256 ^ 7 = 72057594037927936 := by decide
                                                    omega
      clear hb hp
      have hB := u64_shiftIn (numTo t k) (t[k]).toNat hn (t[k]).toNat_lt
      have e3 : t.data.toList.getD k 0 = t[k] := by
        rw [List.getD_eq_getElem?_getD, List.getElem?_eq_getElem (by simpa using hlt)]; rfl
      have Hs := Lib.hid (show numTo t (k + 1) = 256 * numTo t k + (t[k]).toNat by rw [numTo, e3])
      clear e3 hn
      have HB := Lib.hid hB
      clear hB
      go_wp2
      go_round
      case rel => exact ⟨k + 1, by omega, by go_num, by rw [HB.out, Hs.out]⟩
      case measure => simp [intOf]; omega
    · obtain rfl : k = t.size := by omega
      go_wp2
      go_ret
      exact ⟨by rw [← HT.out]; rfl, hr, ht⟩

theorem rdNum_out (b : Nat) (s : ByteArray) (bad : Int) (z : Int) (w : World) (h : Rd w b s bad) (hz : z < 1 ∨ 8 < z) :
    Calls Tryz.prog 143 #[.pointer (some ⟨b, 0, none⟩), .int .i64 z] w fun e w' => e = .returned (.int .u64 0) ∧ Rd w' b s (rdForm bad) ∧ Touch (· = b) w w' := by
  have hcases : z < 1 ∨ (1 ≤ z ∧ 8 < z) := by omega
  clear hz
  rcases hcases with hz | ⟨h1, hz⟩
  all_goals
    go_enter Tryz.func143, Tryz.ntmps143
    go_wp2_with fail
    refine (form_any b s bad _ h).mono ?_
    rintro e w1 ⟨rfl, hr, ht⟩
    go_wp2
    go_ret
    exact ⟨rfl, hr, ht⟩

/-- Reader.Num, of whatever size. -/
theorem rdNum_any (b : Nat) (s : ByteArray) (bad : Int) (z : Int) (w : World) (h : Rd w b s bad) :
    Calls Tryz.prog 143 #[.pointer (some ⟨b, 0, none⟩), .int .i64 z] w fun e w' => e = .returned (.int .u64 (nmN s bad z)) ∧ Rd w' b (nmS s bad z) (nmE s bad z) ∧ Touch (· = b) w w' := by
  unfold nmN nmS nmE
  by_cases hz : 1 ≤ z ∧ z ≤ 8
  · rw [if_pos hz, if_pos hz, if_pos hz]
    obtain ⟨k, rfl⟩ := Int.eq_ofNat_of_zero_le (show 0 ≤ z by omega)
    exact rdNum_in b s bad k w h (by omega) (by omega)
  · rw [if_neg hz, if_neg hz, if_neg hz]
    exact rdNum_out b s bad z w h (by omega)

/-- What Fixed hands back and leaves. -/
def fxT (s : ByteArray) (bad : Int) (z : Int) : ByteArray := if 0 ≤ z then tkT s bad z.toNat else ⟨#[]⟩
def fxS (s : ByteArray) (bad : Int) (z : Int) : ByteArray := if 0 ≤ z then tkS s bad z.toNat else s
def fxE (s : ByteArray) (bad : Int) (z : Int) : Int := if 0 ≤ z then tkE s bad z.toNat else rdForm bad

theorem fixed_any (b : Nat) (s : ByteArray) (bad : Int) (z : Int) (w : World) (h : Rd w b s bad) :
    Calls Tryz.prog 210 #[.pointer (some ⟨b, 0, none⟩), .int .i64 z] w fun e w' => e = .returned (.string (fxT s bad z)) ∧ Rd w' b (fxS s bad z) (fxE s bad z) ∧ Touch (· = b) w w' := by
  unfold fxT fxS fxE
  by_cases hz : 0 ≤ z
  · rw [if_pos hz, if_pos hz, if_pos hz]
    obtain ⟨k, rfl⟩ := Int.eq_ofNat_of_zero_le hz
    go_enter Tryz.func210, Tryz.ntmps210
    go_wp2_with fail
    refine (take_any b s bad k _ h).mono ?_
    rintro e w1 ⟨rfl, hr, ht⟩
    go_wp2
    go_ret
    exact ⟨rfl, hr, ht⟩
  · rw [if_neg hz, if_neg hz, if_neg hz]
    go_enter Tryz.func210, Tryz.ntmps210
    go_wp2_with fail
    refine (form_any b s bad _ h).mono ?_
    rintro e w1 ⟨rfl, hr, ht⟩
    go_wp2
    go_ret
    exact ⟨rfl, hr, ht⟩

/-- What Text hands back and leaves. -/
def txN (s : ByteArray) (bad : Int) : Nat := nmN s bad 2
def txT (s : ByteArray) (bad : Int) : ByteArray := if txN s bad ≤ 4096 then fxT (nmS s bad 2) (nmE s bad 2) (txN s bad) else ⟨#[]⟩
def txS (s : ByteArray) (bad : Int) : ByteArray := if txN s bad ≤ 4096 then fxS (nmS s bad 2) (nmE s bad 2) (txN s bad) else nmS s bad 2
def txE (s : ByteArray) (bad : Int) : Int := if txN s bad ≤ 4096 then fxE (nmS s bad 2) (nmE s bad 2) (txN s bad) else rdForm (nmE s bad 2)

theorem text_any (b : Nat) (s : ByteArray) (bad : Int) (w : World) (h : Rd w b s bad) :
    Calls Tryz.prog 209 #[.pointer (some ⟨b, 0, none⟩)] w fun e w' => e = .returned (.string (txT s bad)) ∧ Rd w' b (txS s bad) (txE s bad) ∧ Touch (· = b) w w' := by
  unfold txT txS txE
  have HN := Lib.hid (show nmN s bad 2 = txN s bad from rfl)
  generalize txN s bad = n at HN
  by_cases hn : n ≤ 4096
  · have hw : wrap64 (n : Int) = n := IntWalk.wrap64_in _ (by omega)
    rw [if_pos hn, if_pos hn, if_pos hn]
    go_enter Tryz.func209, Tryz.ntmps209
    go_wp2_with fail
    refine (rdNum_any b s bad 2 _ h).mono ?_
    rintro e w1 ⟨rfl, hr, ht⟩
    rw [HN.out]
    go_wp2_with fail
    clear hw
    refine (fixed_any b _ _ n _ hr).mono ?_
    rintro e w2 ⟨rfl, hr2, ht2⟩
    go_wp2
    go_ret
    exact ⟨rfl, hr2, ht.trans ht2⟩
  · rw [if_neg hn, if_neg hn, if_neg hn]
    go_enter Tryz.func209, Tryz.ntmps209
    go_wp2_with fail
    refine (rdNum_any b s bad 2 _ h).mono ?_
    rintro e w1 ⟨rfl, hr, ht⟩
    rw [HN.out]
    go_wp2_with fail
    refine (form_any b _ _ _ hr).mono ?_
    rintro e w2 ⟨rfl, hr2, ht2⟩
    go_wp2
    go_ret
    exact ⟨rfl, hr2, ht.trans ht2⟩

/-- octet.Read. -/
theorem read_any (s : ByteArray) (w : World) :
    Calls Tryz.prog 142 #[.string s] w fun e w' => e = .returned (.pointer (some ⟨w.heap.size, 0, none⟩)) ∧ Rd w' w.heap.size s 0 ∧ Touch (fun _ => False) w w' := by
  go_enter Tryz.func142, Tryz.ntmps142
  go_wp2
  go_ret
  exact ⟨rfl, heap_alloc_new _ _, Touch.alloc _ _⟩

/-- What End says. -/
def endOf (s : ByteArray) (bad : Int) : Int := if bad = 0 then if s.size = 0 then 0 else 2 else bad
theorem end_any (b : Nat) (s : ByteArray) (bad : Int) (w : World) (h : Rd w b s bad) :
    Calls Tryz.prog 144 #[.pointer (some ⟨b, 0, none⟩)] w fun e w' => e = .returned (.int .i64 (endOf s bad)) ∧ w = w' := by
  have hc := h.s
  have he := h.e
  unfold endOf
  by_cases hb : bad = 0
  · subst hb
    rw [if_pos rfl]
    by_cases hz : s.size = 0
    · have hl : s.toList = [] := by rw [ByteArray.toList_eq]; apply List.eq_nil_of_length_eq_zero; simpa using hz
      have hl2 : s.toList.isEmpty = true := by rw [hl]; rfl
      rw [if_pos hz]
      clear hz hl
      go_enter Tryz.func144, Tryz.ntmps144
      go_wp2
      go_ret
      exact ⟨rfl, rfl⟩
    · have hl2 : s.toList.isEmpty = false := by rw [ByteArray.toList_eq, List.isEmpty_eq_false_iff]; intro e; exact hz (by have := congrArg List.length e; simpa using this)
      rw [if_neg hz]
      clear hz
      go_enter Tryz.func144, Tryz.ntmps144
      go_wp2
      go_ret
      exact ⟨rfl, rfl⟩
  · have hb' : (bad != 0) = true := bne_iff_ne.2 hb
    rw [if_neg hb]
    clear hb
    go_enter Tryz.func144, Tryz.ntmps144
    go_wp2
    go_ret
    exact ⟨rfl, rfl⟩

end Go.Proofs.YtcgkomafaepjnaaGreatDoor
namespace Go.Proofs.YtcgkomafaepjnaaGreatDoor
open Go.RowKit

theorem tk_bad (s : ByteArray) (bad : Int) (n : Nat) (h : bad ≠ 0) : tkT s bad n = ⟨#[]⟩ ∧ tkS s bad n = s ∧ tkE s bad n = bad :=
  ⟨if_neg (fun e => h e.1), if_neg (fun e => h e.1), if_neg h⟩
theorem tk_fit (s : ByteArray) (n : Nat) (h : n ≤ s.size) : tkT s 0 n = s.extract 0 n ∧ tkS s 0 n = s.extract n s.size ∧ tkE s 0 n = 0 :=
  ⟨if_pos ⟨rfl, h⟩, if_pos ⟨rfl, h⟩, by unfold tkE; rw [if_pos rfl, if_pos h]⟩
theorem tk_short (s : ByteArray) (n : Nat) (h : s.size < n) : tkT s 0 n = ⟨#[]⟩ ∧ tkS s 0 n = s ∧ tkE s 0 n = 3 :=
  ⟨if_neg (fun e => by omega), if_neg (fun e => by omega), by unfold tkE; rw [if_pos rfl, if_neg (by omega)]⟩

theorem numTo_empty : numTo ⟨#[]⟩ (ByteArray.mk #[]).size = 0 := rfl

theorem num_lt1 (s : ByteArray) (bd x : Int) (h : x < 1 ∨ 8 < x) : nmN s bd x = 0 ∧ nmS s bd x = s ∧ nmE s bd x = rdForm bd :=
  ⟨if_neg (by omega), if_neg (by omega), if_neg (by omega)⟩
theorem num_in (s : ByteArray) (bd : Int) (k : Nat) (h1 : 1 ≤ k) (h8 : k ≤ 8) : nmN s bd k = numTo (tkT s bd k) (tkT s bd k).size ∧ nmS s bd k = tkS s bd k ∧ nmE s bd k = tkE s bd k :=
  ⟨if_pos (by omega), if_pos (by omega), if_pos (by omega)⟩
theorem num_fit (s : ByteArray) (k : Nat) (h1 : 1 ≤ k) (h8 : k ≤ 8) (h : k ≤ s.size) : nmN s 0 k = numTo (s.extract 0 k) (s.extract 0 k).size ∧ nmS s 0 k = s.extract k s.size ∧ nmE s 0 k = 0 := by
  obtain ⟨a, b, c⟩ := num_in s 0 k h1 h8
  obtain ⟨d, e, f⟩ := tk_fit s k h
  rw [a, b, c, d, e, f]; exact ⟨rfl, rfl, rfl⟩
theorem num_short (s : ByteArray) (k : Nat) (h1 : 1 ≤ k) (h8 : k ≤ 8) (h : s.size < k) : nmN s 0 k = 0 ∧ nmS s 0 k = s ∧ nmE s 0 k = 3 := by
  obtain ⟨a, b, c⟩ := num_in s 0 k h1 h8
  obtain ⟨d, e, f⟩ := tk_short s k h
  rw [a, b, c, d, e, f]; exact ⟨rfl, rfl, rfl⟩
theorem num_bad (s : ByteArray) (bd : Int) (k : Nat) (h1 : 1 ≤ k) (h8 : k ≤ 8) (h : bd ≠ 0) : nmN s bd k = 0 ∧ nmS s bd k = s ∧ nmE s bd k = bd := by
  obtain ⟨a, b, c⟩ := num_in s bd k h1 h8
  obtain ⟨d, e, f⟩ := tk_bad s bd k h
  rw [a, b, c, d, e, f]; exact ⟨rfl, rfl, rfl⟩
theorem fix_in (s : ByteArray) (bd : Int) (k : Nat) : fxT s bd k = tkT s bd k ∧ fxS s bd k = tkS s bd k ∧ fxE s bd k = tkE s bd k :=
  ⟨if_pos (by omega), if_pos (by omega), if_pos (by omega)⟩

/-- The number in the first two bytes. -/
def len2 (s : ByteArray) : Nat := numTo (s.extract 0 2) (s.extract 0 2).size
theorem len2_lt (s : ByteArray) (h : 2 ≤ s.size) : len2 s < 65536 := by
  unfold len2
  have e : (s.extract 0 2).size = 2 := by rw [ByteArray.size_extract]; omega
  have := numTo_bd (s.extract 0 2) 2
  rw [e]
  have e2 : 256 ^ 2 = 65536 := by decide
  omega

theorem extract_head (s : ByteArray) (a m : Nat) (h : a + m ≤ s.size) : (s.extract a s.size).extract 0 m = s.extract a (a + m) := by
  rw [ByteArray.extract_extract, Nat.add_zero, Nat.min_eq_left h]
theorem extract_rest (s : ByteArray) (a m : Nat) : (s.extract a s.size).extract m (s.extract a s.size).size = s.extract (a + m) s.size := by
  rw [ByteArray.extract_extract, ByteArray.size_extract, show min (a + (min s.size s.size - a)) s.size = s.size from by omega]

theorem text_bad (s : ByteArray) (bd : Int) (h : bd ≠ 0) : txT s bd = ⟨#[]⟩ ∧ txE s bd = bd := by
  obtain ⟨a, b, c⟩ := num_bad s bd 2 (by decide) (by decide) h
  have hn : txN s bd = 0 := a
  unfold txT txE
  rw [hn]
  rw [show nmS s bd 2 = s from b, show nmE s bd 2 = bd from c]
  obtain ⟨d, e, f⟩ := fix_in s bd 0
  obtain ⟨g, _, i⟩ := tk_bad s bd 0 h
  exact ⟨by rw [if_pos (by decide), d, g], by rw [if_pos (by decide), f, i]⟩
theorem text_short2 (s : ByteArray) (h : s.size < 2) : txT s 0 = ⟨#[]⟩ ∧ txE s 0 = 3 := by
  obtain ⟨a, b, c⟩ := num_short s 2 (by decide) (by decide) h
  have hn : txN s 0 = 0 := a
  unfold txT txE
  rw [hn]
  rw [show nmS s 0 2 = s from b, show nmE s 0 2 = 3 from c]
  obtain ⟨d, e, f⟩ := fix_in s 3 0
  obtain ⟨g, _, i⟩ := tk_bad s 3 0 (by decide)
  exact ⟨by rw [if_pos (by decide), d, g], by rw [if_pos (by decide), f, i]⟩
theorem text_form (s : ByteArray) (h : 2 ≤ s.size) (hm : 4096 < len2 s) : txT s 0 = ⟨#[]⟩ ∧ txE s 0 = 4 := by
  obtain ⟨a, b, c⟩ := num_fit s 2 (by decide) (by decide) h
  have hn : txN s 0 = len2 s := a
  unfold txT txE
  rw [hn, if_neg (by omega), if_neg (by omega), show nmE s 0 2 = 0 from c]
  exact ⟨rfl, rfl⟩
theorem text_short (s : ByteArray) (h : 2 ≤ s.size) (hm : len2 s ≤ 4096) (hl : s.size < 2 + len2 s) : txT s 0 = ⟨#[]⟩ ∧ txE s 0 = 3 := by
  obtain ⟨a, b, c⟩ := num_fit s 2 (by decide) (by decide) h
  have hn : txN s 0 = len2 s := a
  unfold txT txE
  rw [hn, if_pos hm, if_pos hm, show nmE s 0 2 = 0 from c, show nmS s 0 2 = s.extract 2 s.size from b]
  obtain ⟨d, e, f⟩ := fix_in (s.extract 2 s.size) 0 (len2 s)
  obtain ⟨g, _, i⟩ := tk_short (s.extract 2 s.size) (len2 s) (by rw [ByteArray.size_extract]; omega)
  exact ⟨by rw [d, g], by rw [f, i]⟩
theorem text_fit (s : ByteArray) (h : 2 ≤ s.size) (hm : len2 s ≤ 4096) (hl : 2 + len2 s ≤ s.size) : txT s 0 = s.extract 2 (2 + len2 s) ∧ txS s 0 = s.extract (2 + len2 s) s.size ∧ txE s 0 = 0 := by
  obtain ⟨a, b, c⟩ := num_fit s 2 (by decide) (by decide) h
  have hn : txN s 0 = len2 s := a
  unfold txT txE txS
  rw [hn, if_pos hm, if_pos hm, if_pos hm, show nmE s 0 2 = 0 from c, show nmS s 0 2 = s.extract 2 s.size from b]
  obtain ⟨d, e, f⟩ := fix_in (s.extract 2 s.size) 0 (len2 s)
  obtain ⟨g, k, i⟩ := tk_fit (s.extract 2 s.size) (len2 s) (by rw [ByteArray.size_extract]; omega)
  exact ⟨by rw [d, g, extract_head _ _ _ hl], by rw [e, k, extract_rest], by rw [f, i]⟩

end Go.Proofs.YtcgkomafaepjnaaGreatDoor
namespace Go.Proofs.YtcgkomafaepjnaaGreatDoor
open Go.RowKit

theorem zk_sz : zsec.size = 64 ∧ zsec.extract 0 56 = zsn 56 ∧ (zsn 56).size = 56 := by decide +kernel
theorem zk_4 : nmN (zsn 56) 0 4 = 0 ∧ nmS (zsn 56) 0 4 = zsn 52 ∧ nmE (zsn 56) 0 4 = 0 := by decide +kernel
theorem zk_2 : nmN (zsn 52) 0 2 = 0 ∧ nmS (zsn 52) 0 2 = zsn 50 ∧ nmE (zsn 52) 0 2 = 0 := by decide +kernel
theorem zk_1 : nmN (zsn 50) 0 1 = 0 ∧ nmS (zsn 50) 0 1 = zsn 49 ∧ nmE (zsn 50) 0 1 = 0 := by decide +kernel
theorem zk_0 : nmN (zsn 49) 0 1 = 0 ∧ nmS (zsn 49) 0 1 = zsn 48 ∧ nmE (zsn 49) 0 1 = 0 := by decide +kernel
theorem zk_n : nmN (zsn 48) 0 1 = 0 ∧ nmS (zsn 48) 0 1 = zsn 47 ∧ nmE (zsn 48) 0 1 = 0 := by decide +kernel
theorem zk_f : fxT (zsn 47) 0 8 = zsn 8 ∧ fxS (zsn 47) 0 8 = zsn 39 ∧ fxE (zsn 47) 0 8 = 0 ∧ (zsn 8).size = 8 := by decide +kernel
theorem zk_c : fxT (zsn 39) 0 0 = ⟨#[]⟩ := by decide +kernel

theorem six_of_row {w : World} {b : Nat} {x0 x1 x2 x3 x4 x5 : Value} {t : TypeId} (h : w.heap[b]? = some (.cells #[x0, x1, x2, x3, x4, x5] t (0, 0))) :
    w.cell? ⟨b, 0, none⟩ = some x0 ∧ w.cell? ⟨b, 1, none⟩ = some x1 ∧ w.cell? ⟨b, 2, none⟩ = some x2 ∧ w.cell? ⟨b, 3, none⟩ = some x3 ∧ w.cell? ⟨b, 4, none⟩ = some x4 ∧ w.cell? ⟨b, 5, none⟩ = some x5 ∧
    w.frozen? ⟨b, 0, none⟩ = false ∧ w.frozen? ⟨b, 1, none⟩ = false ∧ w.frozen? ⟨b, 2, none⟩ = false ∧ w.frozen? ⟨b, 3, none⟩ = false ∧ w.frozen? ⟨b, 4, none⟩ = false ∧ w.frozen? ⟨b, 5, none⟩ = false :=
  ⟨by rw [cell_of_row _ _ 0 _ _ _ h]; rfl, by rw [cell_of_row _ _ 1 _ _ _ h]; rfl, by rw [cell_of_row _ _ 2 _ _ _ h]; rfl, by rw [cell_of_row _ _ 3 _ _ _ h]; rfl, by rw [cell_of_row _ _ 4 _ _ _ h]; rfl, by rw [cell_of_row _ _ 5 _ _ _ h]; rfl,
   frozen_of_row _ _ 0 _ _ h, frozen_of_row _ _ 1 _ _ h, frozen_of_row _ _ 2 _ _ h, frozen_of_row _ _ 3 _ _ h, frozen_of_row _ _ 4 _ _ h, frozen_of_row _ _ 5 _ _ h⟩

theorem six_store {w : World} {b : Nat} {x0 x1 x2 x3 x4 x5 : Value} {t : TypeId} (y0 y1 y2 y3 y4 y5 : Value) (h : w.heap[b]? = some (.cells #[x0, x1, x2, x3, x4, x5] t (0, 0))) :
    ((((((w.setCell ⟨b, 0, none⟩ y0).setCell ⟨b, 1, none⟩ y1).setCell ⟨b, 2, none⟩ y2).setCell ⟨b, 3, none⟩ y3).setCell ⟨b, 4, none⟩ y4).setCell ⟨b, 5, none⟩ y5).heap[b]? = some (.cells #[y0, y1, y2, y3, y4, y5] t (0, 0)) :=
  heap_setCell_same _ b 5 _ _ _ (heap_setCell_same _ b 4 _ _ _ (heap_setCell_same _ b 3 _ _ _ (heap_setCell_same _ b 2 _ _ _ (heap_setCell_same _ b 1 _ _ _ (heap_setCell_same w b 0 _ _ _ h)))))
theorem six_below {B : Nat} {w0 w : World} {b : Nat} (y0 y1 y2 y3 y4 y5 : Value) (h : Below B w0 w) (hb : B ≤ b) :
    Below B w0 ((((((w.setCell ⟨b, 0, none⟩ y0).setCell ⟨b, 1, none⟩ y1).setCell ⟨b, 2, none⟩ y2).setCell ⟨b, 3, none⟩ y3).setCell ⟨b, 4, none⟩ y4).setCell ⟨b, 5, none⟩ y5) :=
  (((((h.setCell (p := ⟨b, 0, none⟩) hb _).setCell (p := ⟨b, 1, none⟩) hb _).setCell (p := ⟨b, 2, none⟩) hb _).setCell (p := ⟨b, 3, none⟩) hb _).setCell (p := ⟨b, 4, none⟩) hb _).setCell (p := ⟨b, 5, none⟩) hb _

theorem ltext_zero (w : World) (hK : Kon w) : Calls Tryz.prog 215 #[.agg #[.int .u64 0, .int .u64 0, .int .i64 0, .int .i64 0, .string (zsn 8), .string ⟨#[]⟩]] w fun e w' => (∃ t : ByteArray, e = .returned (.string t) ∧ t.size = 64) ∧ Below w.heap.size w w' :=
  ltext_any 0 0 0 0 (zsn 8) ⟨#[]⟩ (by decide) (by decide) (by decide) (by decide) zk_f.2.2.2 (by decide) w hK

set_option maxRecDepth 100000 in
set_option maxHeartbeats 1000000 in
theorem lparse_zero (w : World) (hK : Kon w) :
    Calls Tryz.prog 238 #[.string zsec] w fun e w' => (∃ (num a l : Int) (nm ct : ByteArray) (b : Bool), e = .returned (.tuple #[.agg #[.int .u64 0, .int .u64 num, .int .i64 a, .int .i64 l, .string nm, .string ct], .bool b])) ∧ Below w.heap.size w w' := by
  have hsum := Lib.hid (fun W (h : Kon W) => lsum_any (zsn 56) (by rw [zk_sz.2.2]; omega) W h)
  have hts := tag_half 8 [(zsn 56).data.toList]
  generalize (⟨((tagOf 8 [(zsn 56).data.toList]).take 8).toArray⟩ : ByteArray) = T8 at hsum hts
  have hz64 : zsec.size = 64 := zk_sz.1
  have hx := zk_sz.2.1
  have HK := Lib.hid hK
  clear hK
  go_enter Tryz.func238, Tryz.ntmps238
  go_wp2_with fail
  have hb1 : Below w.heap.size w (w.alloc (.cells #[.int .u64 0, .int .u64 0, .int .i64 0, .int .i64 0, .string ⟨#[]⟩, .string ⟨#[]⟩] 310)) := (Below.refl _ _).alloc (Nat.le_refl _) _
  have hk1 : (w.alloc (.cells #[.int .u64 0, .int .u64 0, .int .i64 0, .int .i64 0, .string ⟨#[]⟩, .string ⟨#[]⟩] 310)).heap[w.heap.size]? = some (.cells #[.int .u64 0, .int .u64 0, .int .i64 0, .int .i64 0, .string ⟨#[]⟩, .string ⟨#[]⟩] 310 (0, 0)) := heap_alloc_new _ _
  generalize (w.alloc (.cells #[.int .u64 0, .int .u64 0, .int .i64 0, .int .i64 0, .string ⟨#[]⟩, .string ⟨#[]⟩] 310)) = W1 at hb1 hk1 ⊢
  have hsum1 := hsum.out W1.drew (HK.out.old (hb1.trans ((below_drew W1).mono hb1.size)))
  have hS0 := Lib.hid (below_drew W1)
  have hS1 := Lib.hid (fun w5 (hb5 : Below W1.drew.heap.size W1.drew w5) => below_call hb5)
  go_region_held3 (fun W => Below W1.heap.size W1 W) (first | exact hS0.out | exact hS1.out _ (by assumption)) (first | (go_at_call 244; with_reducible refine hsum1.mono ?_; rintro r w5 ⟨rfl, hb5⟩))
  rename_i hHeld
  have hk5 := (hHeld.block w.heap.size (Array.getElem?_eq_some_iff.1 hk1).1).trans hk1
  have hb5w := hb1.trans (hHeld.mono hb1.size)
  clear hsum hsum1 hS0 hS1 hb5 hHeld hb1 hk1
  have hw5 := hb5w.size
  cases hc : (T8.toList == (zsec.extract 56 64).toList)
  · have hrow := six_store (.int .u64 0) (.int .u64 0) (.int .i64 0) (.int .i64 0) (.string ⟨#[]⟩) (.string ⟨#[]⟩) hk5
    have hbel := six_below (b := w.heap.size) (.int .u64 0) (.int .u64 0) (.int .i64 0) (.int .i64 0) (.string ⟨#[]⟩) (.string ⟨#[]⟩) hb5w (Nat.le_refl _)
    obtain ⟨q0, q1, q2, q3, q4, q5, g0, g1, g2, g3, g4, g5⟩ := six_of_row hk5
    have HR := Lib.hid hrow
    have HL := Lib.hid hbel
    clear hrow hbel hk5 hts hz64 hx hc hb5w hw5
    simp only [Bool.not_false]
    generalize hrb0 : w.heap.size = rb at q0 q1 q2 q3 q4 q5 g0 g1 g2 g3 g4 g5 HR HL ⊢
    have Hrb0 := Lib.hid hrb0
    clear hrb0
    go_wp2_with fail
    have hrow := HR.out
    have hbel := HL.out
    clear HR HL
    generalize ((((((w5.setCell ⟨w.heap.size, 0, none⟩ (.int .u64 0)).setCell ⟨w.heap.size, 1, none⟩ (.int .u64 0)).setCell ⟨w.heap.size, 2, none⟩ (.int .i64 0)).setCell ⟨w.heap.size, 3, none⟩ (.int .i64 0)).setCell ⟨w.heap.size, 4, none⟩ (.string ⟨#[]⟩)).setCell ⟨w.heap.size, 5, none⟩ (.string ⟨#[]⟩)) = V at hrow hbel ⊢
    clear q0 q1 q2 q3 q4 q5 g0 g1 g2 g3 g4 g5
    obtain ⟨p0, p1, p2, p3, p4, p5, _, _, _, _, _, _⟩ := six_of_row hrow
    refine bodyPost_ret (v := .tuple #[.agg #[.int .u64 0, .int .u64 0, .int .i64 0, .int .i64 0, .string ⟨#[]⟩, .string ⟨#[]⟩], .bool false]) ?_ rfl ?_
    · simp [results, Tryz.f238, go_sem, p0, p1, p2, p3, p4, p5]
    · exact ⟨⟨_, _, _, _, _, _, rfl⟩, by rw [Hrb0.out]; exact hbel⟩
  · go_wp2_with fail
    refine (read_any (zsn 56) _).mono ?_
    rintro r w6 ⟨rfl, hr6, ht6⟩
    have hb6 : Below w5.heap.size w5 w6 := ht6.below (fun k hk => hk.elim) (Nat.le_refl _)
    go_wp2_with fail
    have n := rdNum_any w5.heap.size (zsn 56) 0 4 w6 hr6
    rw [zk_4.1, zk_4.2.1, zk_4.2.2] at n
    refine n.mono ?_
    clear n hr6
    rintro r w7 ⟨rfl, hr7, ht7⟩
    have hb7 := hb6.trans (ht7.below (B := w5.heap.size) (fun k hk => by subst hk; exact Nat.le_refl _) hb6.size)
    go_wp2_with fail
    have n := rdNum_any w5.heap.size (zsn 52) 0 2 w7 hr7
    rw [zk_2.1, zk_2.2.1, zk_2.2.2] at n
    refine n.mono ?_
    clear n hr7
    rintro r w8 ⟨rfl, hr8, ht8⟩
    have hb8 := hb7.trans (ht8.below (B := w5.heap.size) (fun k hk => by subst hk; exact Nat.le_refl _) hb7.size)
    go_wp2_with fail
    have n := rdNum_any w5.heap.size (zsn 50) 0 1 w8 hr8
    rw [zk_1.1, zk_1.2.1, zk_1.2.2] at n
    refine n.mono ?_
    clear n hr8
    rintro r w9 ⟨rfl, hr9, ht9⟩
    have hb9 := hb8.trans (ht9.below (B := w5.heap.size) (fun k hk => by subst hk; exact Nat.le_refl _) hb8.size)
    go_wp2_with fail
    have n := rdNum_any w5.heap.size (zsn 49) 0 1 w9 hr9
    rw [zk_0.1, zk_0.2.1, zk_0.2.2] at n
    refine n.mono ?_
    clear n hr9
    rintro r w10 ⟨rfl, hr10, ht10⟩
    have hb10 := hb9.trans (ht10.below (B := w5.heap.size) (fun k hk => by subst hk; exact Nat.le_refl _) hb9.size)
    clear ht6 ht7 ht8 ht9 ht10 hb6 hb7 hb8 hb9
    go_wp2_with fail
    have hr11 : Rd (w10.alloc (.cells #[.int .u64 0, .int .u64 0, .int .i64 0, .int .i64 0, .string ⟨#[]⟩, .string ⟨#[]⟩] 310)) w5.heap.size (zsn 48) 0 := hr10.touch (Touch.alloc (S := fun _ => False) _ _) (fun h => h)
    have hk11 : (w10.alloc (.cells #[.int .u64 0, .int .u64 0, .int .i64 0, .int .i64 0, .string ⟨#[]⟩, .string ⟨#[]⟩] 310)).heap[w10.heap.size]? = some (.cells #[.int .u64 0, .int .u64 0, .int .i64 0, .int .i64 0, .string ⟨#[]⟩, .string ⟨#[]⟩] 310 (0, 0)) := heap_alloc_new _ _
    have hb11 := hb10.alloc hb10.size (.cells #[.int .u64 0, .int .u64 0, .int .i64 0, .int .i64 0, .string ⟨#[]⟩, .string ⟨#[]⟩] 310)
    have hne : w5.heap.size ≠ w10.heap.size := Nat.ne_of_lt (lt_of_heap hr10)
    have hpb := hb10.size
    generalize (w10.alloc (.cells #[.int .u64 0, .int .u64 0, .int .i64 0, .int .i64 0, .string ⟨#[]⟩, .string ⟨#[]⟩] 310)) = w11 at hr11 hk11 hb11 ⊢
    generalize w10.heap.size = pb at hk11 hne hpb ⊢
    clear hr10 hb10
    have n := rdNum_any w5.heap.size (zsn 48) 0 1 w11 hr11
    rw [zk_n.1, zk_n.2.1, zk_n.2.2] at n
    refine n.mono ?_
    clear n hr11
    rintro r w12 ⟨rfl, hr12, ht12⟩
    have hk12 := ht12.heap hk11 (fun e => hne e.symm)
    have hb12 := hb11.trans (ht12.below (B := w5.heap.size) (fun k hk => by subst hk; exact Nat.le_refl _) hb11.size)
    clear ht12 hk11 hb11
    go_wp2_with fail
    have n := fixed_any w5.heap.size (zsn 47) 0 8 w12 hr12
    rw [zk_f.1, zk_f.2.1, zk_f.2.2.1] at n
    refine n.mono ?_
    clear n hr12
    rintro r w13 ⟨rfl, hr13, ht13⟩
    have hk13 := ht13.heap hk12 (fun e => hne e.symm)
    have hb13 := hb12.trans (ht13.below (B := w5.heap.size) (fun k hk => by subst hk; exact Nat.le_refl _) hb12.size)
    clear ht13 hk12 hb12
    have y4 : w13.cell? ⟨pb, 4, none⟩ = some (.string ⟨#[]⟩) := by rw [cell_of_row _ _ 4 _ _ _ hk13]; rfl
    have f4 : w13.frozen? ⟨pb, 4, none⟩ = false := frozen_of_row _ _ 4 _ _ hk13
    go_wp2_with fail
    have hk14 := heap_setCell_same w13 pb 4 _ _ (.string (zsn 8)) hk13
    have hr14 : Rd (w13.setCell ⟨pb, 4, none⟩ (.string (zsn 8))) w5.heap.size (zsn 39) 0 := hr13.touch (Touch.setCell (S := (· = pb)) _ _ _ rfl) hne
    have hb14 := hb13.setCell (p := ⟨pb, 4, none⟩) (by exact hpb) (.string (zsn 8))
    generalize (w13.setCell ⟨pb, 4, none⟩ (.string (zsn 8))) = w14 at hk14 hr14 hb14 ⊢
    have hk14 : w14.heap[pb]? = some (.cells #[.int .u64 0, .int .u64 0, .int .i64 0, .int .i64 0, .string (zsn 8), .string ⟨#[]⟩] 310 (0, 0)) := hk14
    clear hk13 hr13 hb13 y4 f4
    go_wp2_with fail
    have n := fixed_any w5.heap.size (zsn 39) 0 0 w14 hr14
    rw [zk_c] at n
    refine n.mono ?_
    clear n hr14
    rintro r w15 ⟨rfl, _, ht15⟩
    have hk15 := ht15.heap hk14 (fun e => hne e.symm)
    have hb15 := hb14.trans (ht15.below (B := w5.heap.size) (fun k hk => by subst hk; exact Nat.le_refl _) hb14.size)
    clear ht15 hk14 hb14
    have y5 : w15.cell? ⟨pb, 5, none⟩ = some (.string ⟨#[]⟩) := by rw [cell_of_row _ _ 5 _ _ _ hk15]; rfl
    have f5 : w15.frozen? ⟨pb, 5, none⟩ = false := frozen_of_row _ _ 5 _ _ hk15
    go_wp2_with fail
    have hk16 := heap_setCell_same w15 pb 5 _ _ (.string ⟨#[]⟩) hk15
    have hb16 := hb15.setCell (p := ⟨pb, 5, none⟩) (by exact hpb) (.string ⟨#[]⟩)
    generalize (w15.setCell ⟨pb, 5, none⟩ (.string ⟨#[]⟩)) = w16 at hk16 hb16 ⊢
    have hk16 : w16.heap[pb]? = some (.cells #[.int .u64 0, .int .u64 0, .int .i64 0, .int .i64 0, .string (zsn 8), .string ⟨#[]⟩] 310 (0, 0)) := hk16
    clear hk15 hb15 y5 f5
    have hrb := (hb16.block _ (lt_of_heap hk5)).trans hk5
    have hl5 := lt_of_heap hk5
    have hb16 := hb5w.trans (hb16.mono hw5)
    have hne2 : w.heap.size ≠ pb := by omega
    generalize hrbn : w.heap.size = rb at hrb hne2 ⊢
    have hlr := lt_of_heap hrb
    have hlp := lt_of_heap hk16
    have htext := Lib.hid (ltext_zero w16.drew (HK.out.old (hb16.trans ((below_drew w16).mono (by have := hb16.size; omega)))))
    obtain ⟨p0, p1, p2, p3, p4, p5, _, _, _, _, _, _⟩ := six_of_row hk16
    obtain ⟨q0, q1, q2, q3, q4, q5, g0, g1, g2, g3, g4, g5⟩ := six_of_row hrb
    have HP := Lib.hid (fun w17 (hb : Below w16.drew.heap.size w16.drew w17) => six_of_row (((below_call hb).block pb hlp).trans hk16))
    have HR := Lib.hid (fun w17 (hb : Below w16.drew.heap.size w16.drew w17) => six_of_row (((below_call hb).block rb hlr).trans hrb))
    have Hk16 := Lib.hid hk16
    have Hrb := Lib.hid hrb
    clear hk16 hrb
    go_region_law (first | (go_simp; go_at_call 215; with_reducible refine htext.out.mono ?_; rintro r w17 ⟨⟨tt, rfl, _⟩, hb17⟩; obtain ⟨p0', p1', p2', p3', p4', p5', _, _, _, _, _, _⟩ := HP.out _ hb17; obtain ⟨q0', q1', q2', q3', q4', q5', g0', g1', g2', g3', g4', g5'⟩ := HR.out _ hb17))
    all_goals
      have hq17 := (below_call hb17).block rb hlr
      have hrow := six_store (.int .u64 0) (.int .u64 0) (.int .i64 0) (.int .i64 0) (.string (zsn 8)) (.string ⟨#[]⟩) (hq17.trans Hrb.out)
      have hbel := six_below (b := rb) (.int .u64 0) (.int .u64 0) (.int .i64 0) (.int .i64 0) (.string (zsn 8)) (.string ⟨#[]⟩) (hb16.trans ((below_call hb17).mono (by have := hb16.size; omega))) (by omega)
      generalize ((((((w17.setCell ⟨rb, 0, none⟩ (.int .u64 0)).setCell ⟨rb, 1, none⟩ (.int .u64 0)).setCell ⟨rb, 2, none⟩ (.int .i64 0)).setCell ⟨rb, 3, none⟩ (.int .i64 0)).setCell ⟨rb, 4, none⟩ (.string (zsn 8))).setCell ⟨rb, 5, none⟩ (.string ⟨#[]⟩)) = V at hrow hbel ⊢
      simp only [Act.put, List.getElem_toArray, List.getElem_cons_succ, List.getElem_cons_zero, List.setIfInBounds_toArray, List.set_cons_succ, List.set_cons_zero]
      clear hl5 hne2 hlr hlp htext hne hpb hw5
      clear hb17 p0' p1' p2' p3' p4' p5' q0' q1' q2' q3' q4' q5' g0' g1' g2' g3' g4' g5' HP HR Hk16 Hrb p0 p1 p2 p3 p4 p5 q0 q1 q2 q3 q4 q5 g0 g1 g2 g3 g4 g5
      obtain ⟨p0, p1, p2, p3, p4, p5, _, _, _, _, _, _⟩ := six_of_row hrow
      clear hrow hq17
      clear hk5 hts hz64 hx hb5w hb16
      clear hb16
      clear hk14 hk16
      go_wp2
      refine bodyPost_ret (v := .tuple #[.agg #[.int .u64 0, .int .u64 0, .int .i64 0, .int .i64 0, .string (zsn 8), .string ⟨#[]⟩], .bool (tt.toList == zsec.toList)]) ?_ rfl ?_
      · simp [results, Tryz.f238, go_sem, p0, p1, p2, p3, p4, p5]
      · exact ⟨⟨_, _, _, _, _, _, rfl⟩, hbel⟩

end Go.Proofs.YtcgkomafaepjnaaGreatDoor
namespace Go.Proofs.YtcgkomafaepjnaaGreatDoor
open Go.RowKit

set_option maxRecDepth 100000 in
set_option maxHeartbeats 2000000 in
theorem lrecord_zero (hp : Value) (g n c : Nat) (hn : 0 < n) (w : World) (hK : Kon w) (hc : w.cell? ⟨g, 0, none⟩ = some (.string zsec)) :
    Calls Tryz.prog 207 #[hp, .slice (some ⟨g, 0, none⟩) n c] w fun e w' => e = .returned (.tuple #[.int .u64 0, .string ⟨#[]⟩, .int .i64 0, .bool false]) ∧ Below w.heap.size w w' := by
  have hpar := lparse_zero w hK
  have hn0 : (0 : Int) < (n : Int) := by omega
  go_enter Tryz.func207, Tryz.ntmps207
  go_wp2_with fail
  refine hpar.mono ?_
  clear hpar
  rintro e w1 ⟨⟨num, a, l, nm, ct, b, rfl⟩, hb1⟩
  go_wp2_with fail
  have hrow : (w1.alloc (.cells #[.int .u64 0, .int .u64 num, .int .i64 a, .int .i64 l, .string nm, .string ct] 310)).heap[w1.heap.size]? = some (.cells #[.int .u64 0, .int .u64 num, .int .i64 a, .int .i64 l, .string nm, .string ct] 310 (0, 0)) := heap_alloc_new _ _
  have hb2 := hb1.alloc hb1.size (.cells #[.int .u64 0, .int .u64 num, .int .i64 a, .int .i64 l, .string nm, .string ct] 310)
  generalize (w1.alloc (.cells #[.int .u64 0, .int .u64 num, .int .i64 a, .int .i64 l, .string nm, .string ct] 310)) = w2 at hrow hb2 ⊢
  generalize w1.heap.size = pb at hrow ⊢
  obtain ⟨p0, p1, p2, p3, p4, p5, _, _, _, _, _, _⟩ := six_of_row hrow
  clear hrow hb1
  cases b
  · go_quiet (fail)
    go_wp2
    exact bodyPost_ret (v := .tuple #[.int .u64 0, .string ⟨#[]⟩, .int .i64 0, .bool false]) (by simp [results, Tryz.f207, go_sem]) rfl ⟨rfl, hb2.trans (below_drewN w2 nq)⟩
  · by_cases ha : a = 0
    · have e1 : (a != 0) = false := by simpa using ha
      clear ha
      obtain ⟨t0, ht0⟩ : ∃ t0 : Int, t0 = 0 := ⟨_, rfl⟩
      have e3 : (t0 == 0) = true := by simpa using ht0
      have p0 : w2.cell? ⟨pb, 0, none⟩ = some (.int .u64 t0) := by rw [p0, ht0]
      clear ht0
      go_quiet (fail)
      go_wp2
      exact bodyPost_ret (v := .tuple #[.int .u64 0, .string ⟨#[]⟩, .int .i64 0, .bool false]) (by simp [results, Tryz.f207, go_sem]) rfl ⟨rfl, hb2.trans (below_drewN w2 nq)⟩
    · have e1 : (a != 0) = true := by simpa using ha
      clear ha
      go_quiet (fail)
      go_wp2
      exact bodyPost_ret (v := .tuple #[.int .u64 0, .string ⟨#[]⟩, .int .i64 0, .bool false]) (by simp [results, Tryz.f207, go_sem]) rfl ⟨rfl, hb2.trans (below_drewN w2 nq)⟩

theorem four_of_row {w : World} {b : Nat} {x0 x1 x2 x3 : Value} {t : TypeId} (h : w.heap[b]? = some (.cells #[x0, x1, x2, x3] t (0, 0))) :
    w.cell? ⟨b, 0, none⟩ = some x0 ∧ w.cell? ⟨b, 1, none⟩ = some x1 ∧ w.cell? ⟨b, 2, none⟩ = some x2 ∧ w.cell? ⟨b, 3, none⟩ = some x3 ∧
    w.frozen? ⟨b, 0, none⟩ = false ∧ w.frozen? ⟨b, 1, none⟩ = false ∧ w.frozen? ⟨b, 2, none⟩ = false ∧ w.frozen? ⟨b, 3, none⟩ = false :=
  ⟨by rw [cell_of_row _ _ 0 _ _ _ h]; rfl, by rw [cell_of_row _ _ 1 _ _ _ h]; rfl, by rw [cell_of_row _ _ 2 _ _ _ h]; rfl, by rw [cell_of_row _ _ 3 _ _ _ h]; rfl,
   frozen_of_row _ _ 0 _ _ h, frozen_of_row _ _ 1 _ _ h, frozen_of_row _ _ 2 _ _ h, frozen_of_row _ _ 3 _ _ h⟩
theorem four_store {w : World} {b : Nat} {x0 x1 x2 x3 : Value} {t : TypeId} (y0 y1 y2 y3 : Value) (h : w.heap[b]? = some (.cells #[x0, x1, x2, x3] t (0, 0))) :
    ((((w.setCell ⟨b, 0, none⟩ y0).setCell ⟨b, 1, none⟩ y1).setCell ⟨b, 2, none⟩ y2).setCell ⟨b, 3, none⟩ y3).heap[b]? = some (.cells #[y0, y1, y2, y3] t (0, 0)) :=
  heap_setCell_same _ b 3 _ _ _ (heap_setCell_same _ b 2 _ _ _ (heap_setCell_same _ b 1 _ _ _ (heap_setCell_same w b 0 _ _ _ h)))
theorem four_below {B : Nat} {w0 w : World} {b : Nat} (y0 y1 y2 y3 : Value) (h : Below B w0 w) (hb : B ≤ b) :
    Below B w0 ((((w.setCell ⟨b, 0, none⟩ y0).setCell ⟨b, 1, none⟩ y1).setCell ⟨b, 2, none⟩ y2).setCell ⟨b, 3, none⟩ y3) :=
  (((h.setCell (p := ⟨b, 0, none⟩) hb _).setCell (p := ⟨b, 1, none⟩) hb _).setCell (p := ⟨b, 2, none⟩) hb _).setCell (p := ⟨b, 3, none⟩) hb _

def zlist (k : Nat) : List Value := List.replicate k (.string zsec)
theorem zlist_succ (k : Nat) : zlist (k + 1) = zlist k ++ [.string zsec] := by unfold zlist; rw [List.replicate_succ']

set_option maxRecDepth 100000 in
set_option maxHeartbeats 4000000 in
theorem lread_zero (b d g sz at' : Nat) (xs : List ByteArray) (hsz : 0 < sz) (hx : ∀ x ∈ xs, x = zsec) (hle : at' + sz ≤ xs.length) (h64 : xs.length < 65536) (w : World) (hK : Kon w) (hd : DiskAt w d g xs (.slice none 0 0))
    (hb0 : w.cell? ⟨b, 0, none⟩ = some (.pointer (some ⟨d, 0, none⟩))) (hb2 : w.cell? ⟨b, 2, none⟩ = some (.int .i64 sz)) (hbl : b < w.heap.size) :
    Calls Tryz.prog 175 #[.pointer (some ⟨b, 0, none⟩), .int .i64 at'] w fun e w' => e = .returned (.tuple #[.agg #[.int .i64 at', .int .u64 0, .int .i64 0, .slice none 0 0], .int .i64 0]) ∧ Below w.heap.size w w' := by
  have HX := Lib.hid hx
  have HK := Lib.hid hK
  have HD := Lib.hid hd
  have hin : ∀ k, k < sz → IntKind.i64.wrap ((at' : Int) + (k : Int)) = ((at' + k : Nat) : Int) := fun k hk => by rw [show (at' : Int) + (k : Int) = ((at' + k : Nat) : Int) by omega]; exact IntWalk.i64_in _ (by omega)
  have HIN := Lib.hid hin
  have hread := Lib.hid (fun (W : World) (k : Nat) (hk : at' + k < xs.length) (h : DiskAt W d g xs (.slice none 0 0)) => sread_any d g xs (at' + k) hk W h)
  clear hx hK hd hin
  go_enter Tryz.func175, Tryz.ntmps175
  go_wp2_with fail
  have rowR : ((w.alloc (.cells #[.int .i64 0, .int .u64 0, .int .i64 0, .slice none 0 0] 268)).alloc (.cells #[.int .i64 at', .int .u64 0, .int .i64 0, .slice none 0 0] 268)).heap[w.heap.size]? = some (.cells #[.int .i64 0, .int .u64 0, .int .i64 0, .slice none 0 0] 268 (0, 0)) := by
    rw [Below.heap_alloc _ _ _ (by simp)]; exact heap_alloc_new _ _
  have rowH : ((w.alloc (.cells #[.int .i64 0, .int .u64 0, .int .i64 0, .slice none 0 0] 268)).alloc (.cells #[.int .i64 at', .int .u64 0, .int .i64 0, .slice none 0 0] 268)).heap[w.heap.size + 1]? = some (.cells #[.int .i64 at', .int .u64 0, .int .i64 0, .slice none 0 0] 268 (0, 0)) := heap_alloc2_new _ _ _
  have hb1 : Below w.heap.size w ((w.alloc (.cells #[.int .i64 0, .int .u64 0, .int .i64 0, .slice none 0 0] 268)).alloc (.cells #[.int .i64 at', .int .u64 0, .int .i64 0, .slice none 0 0] 268)) := ((Below.refl _ w).alloc (Nat.le_refl _) _).alloc (by simp) _
  generalize ((w.alloc (.cells #[.int .i64 0, .int .u64 0, .int .i64 0, .slice none 0 0] 268)).alloc (.cells #[.int .i64 at', .int .u64 0, .int .i64 0, .slice none 0 0] 268)) = W1 at rowR rowH hb1 ⊢
  have hs1 := (Array.getElem?_eq_some_iff.1 rowH).1
  clear hb2
  go_loopw [7, 21] (fun v i W => ∃ k : Nat, k ≤ sz ∧ i = .int .i64 k ∧ W.ownsRow W1.heap.size 9 1 v k (zlist k) ∧ Below W1.heap.size W1 W) (fun _ i _ => sz - (intOf i).toNat)
  case atStart => exact ⟨0, Nat.zero_le _, rfl, World.ownsRow_nil _ _ _ _, Below.refl _ _⟩
  case round =>
    obtain ⟨k, hk, rfl, hown, hb⟩ := hrel
    have hbw := hb1.trans (hb.mono (by have := hb1.size; omega))
    have y0 : wr.cell? ⟨b, 0, none⟩ = some (.pointer (some ⟨d, 0, none⟩)) := (hbw.cell (p := ⟨b, 0, none⟩) hbl).trans hb0
    by_cases hlt : k < sz
    · have hki : (k : Int) < (sz : Int) := by omega
      have hwk := HIN.out k hlt
      have hcall := hread.out wr k (by omega) (HD.out.below hbw HD.out.lt.1 HD.out.lt.2)
      have hxk : xs.getD (at' + k) ⟨#[]⟩ = zsec := HX.out _ (by
        have h : at' + k < xs.length := by omega
        simp [h])
      rw [hxk] at hcall
      clear hxk
      have HO := Lib.hid hown
      have hbs := hb.size
      clear hown
      go_wp2_with fail
      refine hcall.mono ?_
      rintro e w2 ⟨rfl, hb2⟩
      have hown := (Touch.of_below hb2 (fun _ => False)).own HO.out (fun _ _ h => h)
      have hb3 := hb.trans (hb2.mono hbs)
      have hs3 := hb3.size
      clear hcall y0
      go_wp2_with (at_builtin; refine Hid.out ?_)
      unfold Hid
      refine wpList_app1 rfl rfl Tryz.underlying31 Tryz.infoStr rfl hown rfl rfl rfl (by omega) (by unfold maxLen; omega) (by omega) ?_
      intro v' w4 ho4 hg4
      rw [← zlist_succ] at ho4
      have hb4 := hb3.grown hg4 hs3 (fun j hj => (hown.lt j hj).1)
      clear hown
      go_wp2
      go_roundw
      case rel => exact ⟨k + 1, by omega, by go_num, ho4, hb4⟩
      case measure => simp [intOf]; omega
    · obtain rfl : k = sz := by omega
      obtain ⟨g2, c2, rfl, hgB, hgl, hgc, hcell⟩ := own_opened hown (by omega)
      have hc0 : wr.cell? ⟨g2, 0, none⟩ = some (.string zsec) := hcell 0 _ (by unfold zlist; rw [List.getElem?_replicate]; simp [hsz])
      have rowH' := (hb.block _ hs1).trans rowH
      have rowR' := (hb.block _ (by omega)).trans rowR
      have hrec := Lib.hid (lrecord_zero (.pointer (some ⟨w.heap.size + 1, 0, none⟩)) g2 k c2 (by omega) wr (HK.out.old hbw) hc0)
      have hk0 : (0 : Int) < (k : Int) := by omega
      clear hown hcell hc0 hgc y0
      go_wp2_with fail
      refine wp_loop_rounds 2 ?_
      rw [rounds_succ]
      go_wp2_with fail
      refine hrec.out.mono ?_
      rintro e w2 ⟨rfl, hb2⟩
      have rowH2 := (hb2.block _ (by have := hb.size; omega)).trans rowH'
      have rowR2 := (hb2.block _ (by have := hb.size; omega)).trans rowR'
      have hbf := hbw.trans (hb2.mono hbw.size)
      clear hrec rowH' rowR' rowH rowR hb2 hb
      have h0 : w2.cell? ⟨w.heap.size + 1, 0, none⟩ = some (.int .i64 at') := by rw [cell_of_row _ _ 0 _ _ _ rowH2]; rfl
      have h1 : w2.cell? ⟨w.heap.size + 1, 1, none⟩ = some (.int .u64 0) := by rw [cell_of_row _ _ 1 _ _ _ rowH2]; rfl
      have h2 : w2.cell? ⟨w.heap.size + 1, 2, none⟩ = some (.int .i64 0) := by rw [cell_of_row _ _ 2 _ _ _ rowH2]; rfl
      have h3 : w2.cell? ⟨w.heap.size + 1, 3, none⟩ = some (.slice none 0 0) := by rw [cell_of_row _ _ 3 _ _ _ rowH2]; rfl
      have q0 : w2.cell? ⟨w.heap.size, 0, none⟩ = some (.int .i64 0) := by rw [cell_of_row _ _ 0 _ _ _ rowR2]; rfl
      have q1 : w2.cell? ⟨w.heap.size, 1, none⟩ = some (.int .u64 0) := by rw [cell_of_row _ _ 1 _ _ _ rowR2]; rfl
      have q2 : w2.cell? ⟨w.heap.size, 2, none⟩ = some (.int .i64 0) := by rw [cell_of_row _ _ 2 _ _ _ rowR2]; rfl
      have q3 : w2.cell? ⟨w.heap.size, 3, none⟩ = some (.slice none 0 0) := by rw [cell_of_row _ _ 3 _ _ _ rowR2]; rfl
      have f0 : w2.frozen? ⟨w.heap.size, 0, none⟩ = false := frozen_of_row _ _ 0 _ _ rowR2
      have f1 : w2.frozen? ⟨w.heap.size, 1, none⟩ = false := frozen_of_row _ _ 1 _ _ rowR2
      have f2 : w2.frozen? ⟨w.heap.size, 2, none⟩ = false := frozen_of_row _ _ 2 _ _ rowR2
      have f3 : w2.frozen? ⟨w.heap.size, 3, none⟩ = false := frozen_of_row _ _ 3 _ _ rowR2
      have HR := Lib.hid rowR2
      have HF := Lib.hid hbf
      clear rowH2 rowR2 hbf hbw hb1 hb0 hle h64 hs1 hgl hgB hbl
      generalize hrb0 : w.heap.size = rb at h0 h1 h2 h3 q0 q1 q2 q3 f0 f1 f2 f3 HR HF ⊢
      have Hrb0 := Lib.hid hrb0
      clear hrb0
      go_wp2_with fail
      have rowV := four_store (.int .i64 at') (.int .u64 0) (.int .i64 0) (.slice none 0 0) HR.out
      have hbV := four_below (b := rb) (.int .i64 at') (.int .u64 0) (.int .i64 0) (.slice none 0 0) HF.out (Nat.le_refl _)
      generalize ((((w2.setCell ⟨rb, 0, none⟩ (.int .i64 at')).setCell ⟨rb, 1, none⟩ (.int .u64 0)).setCell ⟨rb, 2, none⟩ (.int .i64 0)).setCell ⟨rb, 3, none⟩ (.slice none 0 0)) = V at rowV hbV ⊢
      obtain ⟨p0, p1, p2, p3, _, _, _, _⟩ := four_of_row rowV
      refine bodyPost_ret (v := .tuple #[.agg #[.int .i64 at', .int .u64 0, .int .i64 0, .slice none 0 0], .int .i64 0]) ?_ rfl ⟨rfl, by rw [Hrb0.out]; exact hbV⟩
      simp [results, Tryz.f175, go_sem, p0, p1, p2, p3]

end Go.Proofs.YtcgkomafaepjnaaGreatDoor
namespace Go.Proofs.YtcgkomafaepjnaaGreatDoor
open Go.RowKit

/-- A book. -/
def BookAt (w : World) (b d first sz at' turn nend : Nat) (recs : Value) : Prop :=
  w.heap[b]? = some (.cells #[.pointer (some ⟨d, 0, none⟩), .int .i64 first, .int .i64 sz, .int .i64 at', .int .u64 turn, .int .i64 nend, recs, .bool false] 270 (0, 0))

set_option maxRecDepth 100000 in
set_option maxHeartbeats 1000000 in
theorem lopen_zero (d g first count sz : Nat) (xs : List ByteArray) (h8 : 8 ≤ count) (hsz : sz = count / 2) (hx : ∀ x ∈ xs, x = zsec) (hle : first + count ≤ xs.length) (h64 : xs.length < 65536) (w : World) (hK : Kon w) (hd : DiskAt w d g xs (.slice none 0 0)) :
    Calls Tryz.prog 112 #[.pointer (some ⟨d, 0, none⟩), .int .i64 first, .int .i64 count] w fun e w' => ∃ b, e = .returned (.tuple #[.pointer (some ⟨b, 0, none⟩), .int .i64 0]) ∧ w.heap.size ≤ b ∧ BookAt w' b d first sz first 0 0 (.slice none 0 0) ∧ Below w.heap.size w w' := by
  have hcount := scount_any d g xs (.slice none 0 0) w hd
  have HK := Lib.hid hK
  have HD := Lib.hid hd
  have c1 : ¬ ((count : Int) < 8) := by omega
  have c2 : ¬ ((first : Int) < 0) := by omega
  have c3 : ¬ ((xs.length : Int) < (count : Int)) := by omega
  obtain ⟨r, hr⟩ : ∃ r, r = xs.length - count := ⟨_, rfl⟩
  have c4 : IntKind.i64.wrap ((xs.length : Int) - (count : Int)) = (r : Int) := by rw [show (xs.length : Int) - (count : Int) = (r : Int) by omega]; exact IntWalk.i64_in _ (by omega)
  have c5 : ¬ ((r : Int) < (first : Int)) := by omega
  have c6 : (count : Int) / 2 = (sz : Int) := by omega
  have c7 : IntKind.i64.wrap (sz : Int) = (sz : Int) := IntWalk.i64_in _ (by omega)
  have c8 : IntKind.i64.wrap (first : Int) = (first : Int) := IntWalk.i64_in _ (by omega)
  obtain ⟨f2, hf2⟩ : ∃ f2, f2 = first + sz := ⟨_, rfl⟩
  have c9 : IntKind.i64.wrap ((first : Int) + (sz : Int)) = (f2 : Int) := by rw [show (first : Int) + (sz : Int) = (f2 : Int) by omega]; exact IntWalk.i64_in _ (by omega)
  have hf2l : f2 + sz ≤ xs.length := by omega
  have hf1l : first + sz ≤ xs.length := by omega
  have C6 := Lib.hid c6
  have hsz0 : 0 < sz := by omega
  have hread := Lib.hid (fun (b at' : Nat) (h1 : at' + sz ≤ xs.length) (W : World) (hK : Kon W) (h : DiskAt W d g xs (.slice none 0 0)) h2 h3 h4 => lread_zero b d g sz at' xs hsz0 hx h1 h64 W hK h h2 h3 h4)
  clear hd hx hr c6 hsz hf2
  go_enter Tryz.func112, Tryz.ntmps112
  go_wp2_with fail
  refine hcount.mono ?_
  rintro e w' ⟨rfl, rfl⟩
  go_wp2_with fail
  refine hcount.mono ?_
  rintro e w' ⟨rfl, rfl⟩
  go_wp2_with fail
  rw [C6.out]
  have row : (w'.alloc (.cells #[.pointer (some ⟨d, 0, none⟩), .int .i64 first, .int .i64 sz, .int .i64 0, .int .u64 0, .int .i64 0, .slice none 0 0, .bool false] 270)).heap[w'.heap.size]? = some (.cells #[.pointer (some ⟨d, 0, none⟩), .int .i64 first, .int .i64 sz, .int .i64 0, .int .u64 0, .int .i64 0, .slice none 0 0, .bool false] 270 (0, 0)) := heap_alloc_new _ _
  have hb1 : Below w'.heap.size w' (w'.alloc (.cells #[.pointer (some ⟨d, 0, none⟩), .int .i64 first, .int .i64 sz, .int .i64 0, .int .u64 0, .int .i64 0, .slice none 0 0, .bool false] 270)) := (Below.refl _ w').alloc (Nat.le_refl _) _
  generalize (w'.alloc (.cells #[.pointer (some ⟨d, 0, none⟩), .int .i64 first, .int .i64 sz, .int .i64 0, .int .u64 0, .int .i64 0, .slice none 0 0, .bool false] 270)) = W1 at row hb1 ⊢
  have hl1 := lt_of_heap row
  have y0 : W1.cell? ⟨w'.heap.size, 0, none⟩ = some (.pointer (some ⟨d, 0, none⟩)) := by rw [cell_of_row _ _ 0 _ _ _ row]; rfl
  have y2 : W1.cell? ⟨w'.heap.size, 2, none⟩ = some (.int .i64 sz) := by rw [cell_of_row _ _ 2 _ _ _ row]; rfl
  have hcall := hread.out w'.heap.size first hf1l W1 (HK.out.old hb1) (HD.out.below hb1 HD.out.lt.1 HD.out.lt.2) y0 y2 hl1
  clear hcount
  refine wp_loop_rounds 3 ?_
  rw [rounds_succ]
  go_wp2_with fail
  refine hcall.mono ?_
  clear hcall
  rintro e w2 ⟨rfl, hb2⟩
  have row2 := (hb2.block _ hl1).trans row
  have hb2' := hb1.trans (hb2.mono hb1.size)
  have h0 : w2.frozen? ⟨w'.heap.size, 3, none⟩ = false := frozen_of_row _ _ 3 _ _ row2
  have h1 : w2.frozen? ⟨w'.heap.size, 4, none⟩ = false := frozen_of_row _ _ 4 _ _ row2
  have h2 : w2.frozen? ⟨w'.heap.size, 5, none⟩ = false := frozen_of_row _ _ 5 _ _ row2
  have h3 : w2.frozen? ⟨w'.heap.size, 6, none⟩ = false := frozen_of_row _ _ 6 _ _ row2
  have x0 : w2.cell? ⟨w'.heap.size, 3, none⟩ = some (.int .i64 0) := by rw [cell_of_row _ _ 3 _ _ _ row2]; rfl
  have x1 : w2.cell? ⟨w'.heap.size, 4, none⟩ = some (.int .u64 0) := by rw [cell_of_row _ _ 4 _ _ _ row2]; rfl
  have x2 : w2.cell? ⟨w'.heap.size, 5, none⟩ = some (.int .i64 0) := by rw [cell_of_row _ _ 5 _ _ _ row2]; rfl
  have x3 : w2.cell? ⟨w'.heap.size, 6, none⟩ = some (.slice none 0 0) := by rw [cell_of_row _ _ 6 _ _ _ row2]; rfl
  clear y0 y2 row hb2 hb1
  go_wp2_with fail
  have rowH : (w2.alloc (.cells #[.int .i64 first, .int .u64 0, .int .i64 0, .slice none 0 0] 268)).heap[w2.heap.size]? = some (.cells #[.int .i64 first, .int .u64 0, .int .i64 0, .slice none 0 0] 268 (0, 0)) := heap_alloc_new _ _
  have hb3 := hb2'.alloc hb2'.size (.cells #[.int .i64 first, .int .u64 0, .int .i64 0, .slice none 0 0] 268)
  have row3 := (Below.heap_alloc w2 (.cells #[.int .i64 first, .int .u64 0, .int .i64 0, .slice none 0 0] 268) _ (lt_of_heap row2)).trans row2
  have hl2 := lt_of_heap row2
  generalize (w2.alloc (.cells #[.int .i64 first, .int .u64 0, .int .i64 0, .slice none 0 0] 268)) = W3 at rowH hb3 row3 ⊢
  have hne : w2.heap.size ≠ w'.heap.size := by omega
  generalize w2.heap.size = pb at rowH hne ⊢
  clear h0 h1 h2 h3 x0 x1 x2 x3 row2 hl2 hb2'
  go_quiet (fail)
  have hb3 := hb3.trans (below_drewN W3 nq)
  have rowH : (W3.drewN nq).heap[pb]? = some (.cells #[.int .i64 first, .int .u64 0, .int .i64 0, .slice none 0 0] 268 (0, 0)) := rowH
  have row3 : (W3.drewN nq).heap[w'.heap.size]? = some (.cells #[.pointer (some ⟨d, 0, none⟩), .int .i64 first, .int .i64 sz, .int .i64 0, .int .u64 0, .int .i64 0, .slice none 0 0, .bool false] 270 (0, 0)) := row3
  generalize W3.drewN nq = W4 at hb3 rowH row3 ⊢
  obtain ⟨p0, p1, p2, p3, _, _, _, _⟩ := four_of_row rowH
  have h0 : W4.frozen? ⟨w'.heap.size, 3, none⟩ = false := frozen_of_row _ _ 3 _ _ row3
  have h1 : W4.frozen? ⟨w'.heap.size, 4, none⟩ = false := frozen_of_row _ _ 4 _ _ row3
  have h2 : W4.frozen? ⟨w'.heap.size, 5, none⟩ = false := frozen_of_row _ _ 5 _ _ row3
  have h3 : W4.frozen? ⟨w'.heap.size, 6, none⟩ = false := frozen_of_row _ _ 6 _ _ row3
  have x0 : W4.cell? ⟨w'.heap.size, 3, none⟩ = some (.int .i64 0) := by rw [cell_of_row _ _ 3 _ _ _ row3]; rfl
  have x1 : W4.cell? ⟨w'.heap.size, 4, none⟩ = some (.int .u64 0) := by rw [cell_of_row _ _ 4 _ _ _ row3]; rfl
  have x2 : W4.cell? ⟨w'.heap.size, 5, none⟩ = some (.int .i64 0) := by rw [cell_of_row _ _ 5 _ _ _ row3]; rfl
  have x3 : W4.cell? ⟨w'.heap.size, 6, none⟩ = some (.slice none 0 0) := by rw [cell_of_row _ _ 6 _ _ _ row3]; rfl
  have Row3 := Lib.hid row3
  have Hb3 := Lib.hid hb3
  clear rowH row3 hb3
  go_wp2_with fail
  have row5 : ((((W4.setCell ⟨w'.heap.size, 3, none⟩ (.int .i64 first)).setCell ⟨w'.heap.size, 4, none⟩ (.int .u64 0)).setCell ⟨w'.heap.size, 5, none⟩ (.int .i64 0)).setCell ⟨w'.heap.size, 6, none⟩ (.slice none 0 0)).heap[w'.heap.size]? = some (.cells #[.pointer (some ⟨d, 0, none⟩), .int .i64 first, .int .i64 sz, .int .i64 first, .int .u64 0, .int .i64 0, .slice none 0 0, .bool false] 270 (0, 0)) :=
    heap_setCell_same _ w'.heap.size 6 _ _ _ (heap_setCell_same _ w'.heap.size 5 _ _ _ (heap_setCell_same _ w'.heap.size 4 _ _ _ (heap_setCell_same W4 w'.heap.size 3 _ _ _ Row3.out)))
  have hb5 := (((Hb3.out.setCell (p := ⟨w'.heap.size, 3, none⟩) (Nat.le_refl _) (.int .i64 first)).setCell (p := ⟨w'.heap.size, 4, none⟩) (Nat.le_refl _) (.int .u64 0)).setCell (p := ⟨w'.heap.size, 5, none⟩) (Nat.le_refl _) (.int .i64 0)).setCell (p := ⟨w'.heap.size, 6, none⟩) (Nat.le_refl _) (.slice none 0 0)
  generalize ((((W4.setCell ⟨w'.heap.size, 3, none⟩ (.int .i64 first)).setCell ⟨w'.heap.size, 4, none⟩ (.int .u64 0)).setCell ⟨w'.heap.size, 5, none⟩ (.int .i64 0)).setCell ⟨w'.heap.size, 6, none⟩ (.slice none 0 0)) = W5 at row5 hb5 ⊢
  clear h0 h1 h2 h3 x0 x1 x2 x3 p0 p1 p2 p3 Row3 Hb3 hne
  have hl5 := lt_of_heap row5
  have y0 : W5.cell? ⟨w'.heap.size, 0, none⟩ = some (.pointer (some ⟨d, 0, none⟩)) := by rw [cell_of_row _ _ 0 _ _ _ row5]; rfl
  have y2 : W5.cell? ⟨w'.heap.size, 2, none⟩ = some (.int .i64 sz) := by rw [cell_of_row _ _ 2 _ _ _ row5]; rfl
  have hcall := hread.out w'.heap.size f2 hf2l W5 (HK.out.old hb5) (HD.out.below hb5 HD.out.lt.1 HD.out.lt.2) y0 y2 hl5
  rw [rounds_succ]
  go_wp2_with fail
  refine hcall.mono ?_
  clear hcall
  rintro e w6 ⟨rfl, hb6⟩
  have row6 := (hb6.block _ hl5).trans row5
  have hb6' := hb5.trans (hb6.mono hb5.size)
  clear y0 y2 hb6
  go_wp2_with fail
  have rowH : (w6.alloc (.cells #[.int .i64 f2, .int .u64 0, .int .i64 0, .slice none 0 0] 268)).heap[w6.heap.size]? = some (.cells #[.int .i64 f2, .int .u64 0, .int .i64 0, .slice none 0 0] 268 (0, 0)) := heap_alloc_new _ _
  have hb7 := hb6'.alloc hb6'.size (.cells #[.int .i64 f2, .int .u64 0, .int .i64 0, .slice none 0 0] 268)
  have row7 := (Below.heap_alloc w6 (.cells #[.int .i64 f2, .int .u64 0, .int .i64 0, .slice none 0 0] 268) _ (lt_of_heap row6)).trans row6
  generalize (w6.alloc (.cells #[.int .i64 f2, .int .u64 0, .int .i64 0, .slice none 0 0] 268)) = W7 at rowH hb7 row7 ⊢
  generalize w6.heap.size = pb2 at rowH ⊢
  obtain ⟨p0, p1, p2, p3, _, _, _, _⟩ := four_of_row rowH
  clear rowH row6 hb6' hb5 row5 hl5
  go_quiet (fail)
  have hb8 := hb7.trans (below_drewN W7 nq)
  have row8 : (W7.drewN nq).heap[w'.heap.size]? = some (.cells #[.pointer (some ⟨d, 0, none⟩), .int .i64 first, .int .i64 sz, .int .i64 first, .int .u64 0, .int .i64 0, .slice none 0 0, .bool false] 270 (0, 0)) := row7
  generalize W7.drewN nq = W8 at hb8 row8 ⊢
  clear hb7 row7 p0 p1 p2 p3
  go_wp2_with fail
  rw [rounds_succ]
  go_wp2
  go_ret2
  exact ⟨_, rfl, Nat.le_refl _, row8, hb8⟩

end Go.Proofs.YtcgkomafaepjnaaGreatDoor
