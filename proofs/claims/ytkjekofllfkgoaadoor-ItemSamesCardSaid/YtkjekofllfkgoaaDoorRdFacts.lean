/- What octet.Reader's methods hand back, case by case. Conditions: none of a program. -/
import Derived.Test.YtkjekofllfkgoaaDoorReader
import Derived.Lib.Strings
namespace Go.Proofs.YtkjekofllfkgoaaDoor
open Go.RowKit

theorem tk_bad (s : ByteArray) (bad : Int) (n : Nat) (h : bad ≠ 0) : tkT s bad n = ⟨#[]⟩ ∧ tkS s bad n = s ∧ tkE s bad n = bad :=
  ⟨if_neg (fun e => h e.1), if_neg (fun e => h e.1), if_neg h⟩
theorem tk_fit (s : ByteArray) (n : Nat) (h : n ≤ s.size) : tkT s 0 n = s.extract 0 n ∧ tkS s 0 n = s.extract n s.size ∧ tkE s 0 n = 0 :=
  ⟨if_pos ⟨rfl, h⟩, if_pos ⟨rfl, h⟩, by unfold tkE; rw [if_pos rfl, if_pos h]⟩
theorem tk_short (s : ByteArray) (n : Nat) (h : s.size < n) : tkT s 0 n = ⟨#[]⟩ ∧ tkS s 0 n = s ∧ tkE s 0 n = 3 :=
  ⟨if_neg (fun e => by omega), if_neg (fun e => by omega), by unfold tkE; rw [if_pos rfl, if_neg (by omega)]⟩

theorem numTo_empty : numTo ⟨#[]⟩ (ByteArray.mk #[]).size = 0 := rfl

theorem num_lt1 (s : ByteArray) (bd x : Int) (h : x < 1 ∨ 8 < x) : nmN s bd x = 0 ∧ nmS s bd x = s ∧ nmE s bd x = rdForm bd :=
  ⟨if_neg (by omega), if_neg (by omega), if_neg (by omega)⟩
theorem num_in (s : ByteArray) (bd : Int) (k : Nat) (h1 : 1 ≤ k) (h8 : k ≤ 8) : nmN s bd k = numTo (tkT s bd k) (tkT s bd k).size ∧ nmS s bd k = tkS s bd k ∧ nmE s bd k = tkE s bd k :=
  ⟨if_pos (by omega), if_pos (by omega), if_pos (by omega)⟩
theorem num_fit (s : ByteArray) (k : Nat) (h1 : 1 ≤ k) (h8 : k ≤ 8) (h : k ≤ s.size) : nmN s 0 k = numTo (s.extract 0 k) (s.extract 0 k).size ∧ nmS s 0 k = s.extract k s.size ∧ nmE s 0 k = 0 := by
  obtain ⟨a, b, c⟩ := num_in s 0 k h1 h8
  obtain ⟨d, e, f⟩ := tk_fit s k h
  rw [a, b, c, d, e, f]; exact ⟨rfl, rfl, rfl⟩
theorem num_short (s : ByteArray) (k : Nat) (h1 : 1 ≤ k) (h8 : k ≤ 8) (h : s.size < k) : nmN s 0 k = 0 ∧ nmS s 0 k = s ∧ nmE s 0 k = 3 := by
  obtain ⟨a, b, c⟩ := num_in s 0 k h1 h8
  obtain ⟨d, e, f⟩ := tk_short s k h
  rw [a, b, c, d, e, f]; exact ⟨rfl, rfl, rfl⟩
theorem num_bad (s : ByteArray) (bd : Int) (k : Nat) (h1 : 1 ≤ k) (h8 : k ≤ 8) (h : bd ≠ 0) : nmN s bd k = 0 ∧ nmS s bd k = s ∧ nmE s bd k = bd := by
  obtain ⟨a, b, c⟩ := num_in s bd k h1 h8
  obtain ⟨d, e, f⟩ := tk_bad s bd k h
  rw [a, b, c, d, e, f]; exact ⟨rfl, rfl, rfl⟩
theorem fix_in (s : ByteArray) (bd : Int) (k : Nat) : fxT s bd k = tkT s bd k ∧ fxS s bd k = tkS s bd k ∧ fxE s bd k = tkE s bd k :=
  ⟨if_pos (by omega), if_pos (by omega), if_pos (by omega)⟩

/-- The number in the first two bytes. -/
def len2 (s : ByteArray) : Nat := numTo (s.extract 0 2) (s.extract 0 2).size
theorem len2_lt (s : ByteArray) (h : 2 ≤ s.size) : len2 s < 65536 := by
  unfold len2
  have e : (s.extract 0 2).size = 2 := by rw [ByteArray.size_extract]; omega
  have := numTo_bd (s.extract 0 2) 2
  rw [e]
  have e2 : 256 ^ 2 = 65536 := by decide
  omega

theorem extract_head (s : ByteArray) (a m : Nat) (h : a + m ≤ s.size) : (s.extract a s.size).extract 0 m = s.extract a (a + m) := by
  rw [ByteArray.extract_extract, Nat.add_zero, Nat.min_eq_left h]
theorem extract_rest (s : ByteArray) (a m : Nat) : (s.extract a s.size).extract m (s.extract a s.size).size = s.extract (a + m) s.size := by
  rw [ByteArray.extract_extract, ByteArray.size_extract, show min (a + (min s.size s.size - a)) s.size = s.size from by omega]

theorem text_bad (s : ByteArray) (bd : Int) (h : bd ≠ 0) : txT s bd = ⟨#[]⟩ ∧ txE s bd = bd := by
  obtain ⟨a, b, c⟩ := num_bad s bd 2 (by decide) (by decide) h
  have hn : txN s bd = 0 := a
  unfold txT txE
  rw [hn]
  rw [show nmS s bd 2 = s from b, show nmE s bd 2 = bd from c]
  obtain ⟨d, e, f⟩ := fix_in s bd 0
  obtain ⟨g, _, i⟩ := tk_bad s bd 0 h
  exact ⟨by rw [if_pos (by decide), d, g], by rw [if_pos (by decide), f, i]⟩
theorem text_short2 (s : ByteArray) (h : s.size < 2) : txT s 0 = ⟨#[]⟩ ∧ txE s 0 = 3 := by
  obtain ⟨a, b, c⟩ := num_short s 2 (by decide) (by decide) h
  have hn : txN s 0 = 0 := a
  unfold txT txE
  rw [hn]
  rw [show nmS s 0 2 = s from b, show nmE s 0 2 = 3 from c]
  obtain ⟨d, e, f⟩ := fix_in s 3 0
  obtain ⟨g, _, i⟩ := tk_bad s 3 0 (by decide)
  exact ⟨by rw [if_pos (by decide), d, g], by rw [if_pos (by decide), f, i]⟩
theorem text_form (s : ByteArray) (h : 2 ≤ s.size) (hm : 4096 < len2 s) : txT s 0 = ⟨#[]⟩ ∧ txE s 0 = 4 := by
  obtain ⟨a, b, c⟩ := num_fit s 2 (by decide) (by decide) h
  have hn : txN s 0 = len2 s := a
  unfold txT txE
  rw [hn, if_neg (by omega), if_neg (by omega), show nmE s 0 2 = 0 from c]
  exact ⟨rfl, rfl⟩
theorem text_short (s : ByteArray) (h : 2 ≤ s.size) (hm : len2 s ≤ 4096) (hl : s.size < 2 + len2 s) : txT s 0 = ⟨#[]⟩ ∧ txE s 0 = 3 := by
  obtain ⟨a, b, c⟩ := num_fit s 2 (by decide) (by decide) h
  have hn : txN s 0 = len2 s := a
  unfold txT txE
  rw [hn, if_pos hm, if_pos hm, show nmE s 0 2 = 0 from c, show nmS s 0 2 = s.extract 2 s.size from b]
  obtain ⟨d, e, f⟩ := fix_in (s.extract 2 s.size) 0 (len2 s)
  obtain ⟨g, _, i⟩ := tk_short (s.extract 2 s.size) (len2 s) (by rw [ByteArray.size_extract]; omega)
  exact ⟨by rw [d, g], by rw [f, i]⟩
theorem text_fit (s : ByteArray) (h : 2 ≤ s.size) (hm : len2 s ≤ 4096) (hl : 2 + len2 s ≤ s.size) : txT s 0 = s.extract 2 (2 + len2 s) ∧ txS s 0 = s.extract (2 + len2 s) s.size ∧ txE s 0 = 0 := by
  obtain ⟨a, b, c⟩ := num_fit s 2 (by decide) (by decide) h
  have hn : txN s 0 = len2 s := a
  unfold txT txE txS
  rw [hn, if_pos hm, if_pos hm, if_pos hm, show nmE s 0 2 = 0 from c, show nmS s 0 2 = s.extract 2 s.size from b]
  obtain ⟨d, e, f⟩ := fix_in (s.extract 2 s.size) 0 (len2 s)
  obtain ⟨g, k, i⟩ := tk_fit (s.extract 2 s.size) (len2 s) (by rw [ByteArray.size_extract]; omega)
  exact ⟨by rw [d, g, extract_head _ _ _ hl], by rw [e, k, extract_rest], by rw [f, i]⟩

end Go.Proofs.YtkjekofllfkgoaaDoor
