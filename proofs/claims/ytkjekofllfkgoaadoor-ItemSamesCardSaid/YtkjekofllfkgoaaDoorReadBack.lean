/- What was written, read again. Conditions: none of a program. -/
import Derived.Test.YtkjekofllfkgoaaDoorRdFacts
import Derived.Test.YtkjekofllfkgoaaDoorOctRef
namespace Go.Proofs.YtkjekofllfkgoaaDoor
open Go.RowKit

theorem numTo_bytes (n size : Nat) (rest : List UInt8) : ∀ j, j ≤ size → n < 256 ^ size → numTo ⟨(bytesTo n size size ++ rest).toArray⟩ j = n / 256 ^ (size - j) := by
  intro j
  induction j with
  | zero => intro _ h; rw [numTo, Nat.sub_zero, Nat.div_eq_of_lt h]
  | succ j ih =>
    intro hj h
    rw [numTo, ih (by omega) h]
    have hd : (bytesTo n size size ++ rest).getD j 0 = byteAt n (size - 1 - j) := by
      have e := low_bytes n size (j + 1) hj
      rw [bytes_low, ← e, bytesTo, List.append_assoc, List.append_assoc]
      rw [List.getD_eq_getElem?_getD, List.getElem?_append_right (by rw [bytesTo_le]; exact Nat.le_refl _), bytesTo_le, Nat.sub_self]
      rfl
    have hd' : (ByteArray.mk (bytesTo n size size ++ rest).toArray).data.toList.getD j 0 = byteAt n (size - 1 - j) := hd
    rw [hd', show size - (j + 1) = size - 1 - j from by omega, show size - j = (size - 1 - j) + 1 from by omega]
    generalize size - 1 - j = m
    have e3 : (byteAt n m).toNat = n / 256 ^ m % 256 := by simp [byteAt]
    rw [e3, Nat.pow_succ, ← Nat.div_div_eq_div_mul]
    omega

theorem numTo_pre (s : ByteArray) (k : Nat) : ∀ j, j ≤ k → k ≤ s.size → numTo (s.extract 0 k) j = numTo s j := by
  intro j
  induction j with
  | zero => intro _ _; rfl
  | succ j ih =>
    intro hj hk
    rw [numTo, numTo, ih (by omega) hk]
    have e : (s.extract 0 k).data.toList.getD j 0 = s.data.toList.getD j 0 := by
      rw [ByteArray.data_extract, Array.toList_extract]
      simp [List.getD, show j < k by omega]
    rw [e]

theorem mk_size (l : List UInt8) : (ByteArray.mk l.toArray).size = l.length := rfl
theorem mk_extract (a b : List UInt8) : (ByteArray.mk (a ++ b).toArray).extract 0 a.length = ⟨a.toArray⟩ ∧ (ByteArray.mk (a ++ b).toArray).extract a.length (ByteArray.mk (a ++ b).toArray).size = ⟨b.toArray⟩ := by
  constructor
  · apply ByteArray.ext
    rw [ByteArray.data_extract]
    apply Array.ext'
    rw [Array.toList_extract]
    simp
  · apply ByteArray.ext
    rw [ByteArray.data_extract]
    apply Array.ext'
    rw [Array.toList_extract, mk_size]
    simp

theorem read_num (n : Nat) (z : Int) (rest : List UInt8) (h : okNum n z = true) :
    nmN ⟨(refBytes n z ++ rest).toArray⟩ 0 z = n ∧ nmS ⟨(refBytes n z ++ rest).toArray⟩ 0 z = ⟨rest.toArray⟩ ∧ nmE ⟨(refBytes n z ++ rest).toArray⟩ 0 z = 0 := by
  have hr : refBytes n z = bytesTo n z.toNat z.toNat := if_pos h
  have h2 := of_decide_eq_true h
  obtain ⟨k, rfl⟩ := Int.eq_ofNat_of_zero_le (show 0 ≤ z by omega)
  rw [Int.toNat_natCast] at hr h2
  rw [hr]
  have hlen := bytesTo_le n k k
  obtain ⟨e1, e2⟩ := mk_extract (bytesTo n k k) rest
  rw [hlen] at e1 e2
  obtain ⟨f1, f2, f3⟩ := num_fit ⟨(bytesTo n k k ++ rest).toArray⟩ k (by omega) (by omega) (by rw [mk_size, List.length_append]; omega)
  refine ⟨?_, ?_, f3⟩
  · rw [f1, e1]
    have := numTo_bytes n k [] k (Nat.le_refl _) h2.2.2
    rw [List.append_nil, Nat.sub_self, Nat.pow_zero, Nat.div_one] at this
    rw [mk_size, hlen, this]
  · rw [f2, e2]

theorem data_mk (s : ByteArray) : (ByteArray.mk s.data.toList.toArray) = s := by cases s; simp

theorem read_fixed (s : ByteArray) (z : Int) (rest : List UInt8) (h : okFixed s z = true) :
    fxT ⟨(s.data.toList ++ rest).toArray⟩ 0 z = s ∧ fxS ⟨(s.data.toList ++ rest).toArray⟩ 0 z = ⟨rest.toArray⟩ ∧ fxE ⟨(s.data.toList ++ rest).toArray⟩ 0 z = 0 := by
  have hz : (s.size : Int) = z := by simpa [okFixed] using h
  subst hz
  obtain ⟨a, b, c⟩ := fix_in ⟨(s.data.toList ++ rest).toArray⟩ 0 s.size
  obtain ⟨d, e, f⟩ := tk_fit ⟨(s.data.toList ++ rest).toArray⟩ s.size (by rw [mk_size (s.data.toList ++ rest), List.length_append]; simp)
  obtain ⟨e1, e2⟩ := mk_extract s.data.toList rest
  have hl : s.data.toList.length = s.size := by simp
  rw [hl] at e1 e2
  rw [a, b, c, d, e, f, e1, e2, data_mk]
  exact ⟨rfl, rfl, rfl⟩

theorem read_text (s : ByteArray) (rest : List UInt8) (h : okText s = true) :
    txT ⟨(refBytes s.size 2 ++ s.data.toList ++ rest).toArray⟩ 0 = s ∧ txS ⟨(refBytes s.size 2 ++ s.data.toList ++ rest).toArray⟩ 0 = ⟨rest.toArray⟩ ∧ txE ⟨(refBytes s.size 2 ++ s.data.toList ++ rest).toArray⟩ 0 = 0 := by
  have hs : s.size ≤ 4096 := of_decide_eq_true h
  have e2 : 256 ^ (2 : Int).toNat = 65536 := by decide
  have e2' : 256 ^ 2 = 65536 := by decide
  have hok : okNum s.size 2 = true := decide_eq_true ⟨by decide, by decide, by omega⟩
  have hr : refBytes s.size 2 = bytesTo s.size 2 2 := if_pos hok
  rw [hr]
  have hl : s.data.toList.length = s.size := by simp
  have hlen := bytesTo_le s.size 2 2
  have h2 : len2 ⟨(bytesTo s.size 2 2 ++ s.data.toList ++ rest).toArray⟩ = s.size := by
    unfold len2
    rw [List.append_assoc]
    obtain ⟨g1, _⟩ := mk_extract (bytesTo s.size 2 2) (s.data.toList ++ rest)
    rw [hlen] at g1
    rw [g1, mk_size (bytesTo s.size 2 2), hlen]
    have := numTo_bytes s.size 2 [] 2 (Nat.le_refl _) (by omega)
    rw [List.append_nil, Nat.sub_self, Nat.pow_zero, Nat.div_one] at this
    exact this
  have hsz : (ByteArray.mk (bytesTo s.size 2 2 ++ s.data.toList ++ rest).toArray).size = 2 + s.size + rest.length := by rw [mk_size, List.length_append, List.length_append, hlen, hl]
  obtain ⟨a, b, c⟩ := text_fit ⟨(bytesTo s.size 2 2 ++ s.data.toList ++ rest).toArray⟩ (by omega) (by omega) (by omega)
  refine ⟨?_, ?_, c⟩
  · rw [a, h2]
    apply ByteArray.ext
    rw [ByteArray.data_extract]
    apply Array.ext'
    rw [Array.toList_extract]
    rw [List.append_assoc]
    simp [hlen, hl]
  · rw [b, h2]
    obtain ⟨_, g2⟩ := mk_extract (bytesTo s.size 2 2 ++ s.data.toList) rest
    rw [List.length_append, hlen, hl] at g2
    exact g2


end Go.Proofs.YtkjekofllfkgoaaDoor
