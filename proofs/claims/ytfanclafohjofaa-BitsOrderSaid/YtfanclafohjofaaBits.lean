/- Package bits: the bit of a key, its band, the first key of a band, how many bits two keys share. Conditions: texts no longer than the model's bound. -/
import Derived.Test.YtfanclafohjofaaRows
import Derived.Test.YtfanclafohjofaaKit
import Derived.BigQuiet
import Derived.Deep.QuietTactic
namespace Go.Proofs.Ytfanclafohjofaa
open Go.RowKit

/-- The bit i of a text, the highest bit of a byte first; a bit that it has not is 0. -/
def bitAt (l : List UInt8) (i : Nat) : Int := (((l.getD (i / 8) 0).toNat / 2 ^ (7 - i % 8) % 2 : Nat) : Int)
def bitI (l : List UInt8) (z : Int) : Int := if z < 0 then 0 else bitAt l z.toNat

theorem bitI_nat (l : List UInt8) (k : Nat) : bitI l (k : Int) = bitAt l k := by unfold bitI; rw [if_neg (by omega)]; rfl
theorem bitAt_bd (l : List UInt8) (k : Nat) : 0 ≤ bitAt l k ∧ bitAt l k ≤ 1 := by unfold bitAt; omega

theorem bitAt_past (l : List UInt8) (i : Nat) (h : 8 * l.length ≤ i) : bitAt l i = 0 := by
  unfold bitAt
  rw [List.getD_eq_getElem?_getD, List.getElem?_eq_none (by omega)]
  simp

theorem bitAt_walk (s : ByteArray) (k : Nat) (h : k / 8 < s.size) : bits BinOp.and IntKind.i64 (wrap64 (((s[k / 8]).toNat : Int) / 2 ^ (7 - k % 8))) 1 = bitAt s.data.toList k := by
  have hb := (s[k / 8]).toNat_lt
  have e1 : (((s[k / 8]).toNat : Int) / 2 ^ (7 - k % 8)) = (((s[k / 8]).toNat / 2 ^ (7 - k % 8) : Nat) : Int) := by simp
  have hle : (s[k / 8]).toNat / 2 ^ (7 - k % 8) ≤ (s[k / 8]).toNat := Nat.div_le_self _ _
  have e2 : (2 : Int) ^ 63 = 9223372036854775808 := by decide
  have e3 : s.data.toList.getD (k / 8) 0 = s[k / 8] := by
    rw [List.getD_eq_getElem?_getD, List.getElem?_eq_getElem (by simpa using h)]; rfl
  have e4 : (2 : Int) ^ 1 - 1 = 1 := by decide
  unfold bitAt
  rw [e3, e1]
  generalize (s[k / 8]).toNat / 2 ^ (7 - k % 8) = q at hle
  have e5 := i64_mask 1 (by decide) (q : Int) (by omega) (by omega)
  rw [IntWalk.wrap64_in _ (by omega)]
  rw [e4] at e5
  rw [e5]
  omega

set_option maxHeartbeats 400000 in
theorem bit_in (s : ByteArray) (k : Nat) (w : World) (hs : s.size ≤ 1152921504606846975) (hk : k < 8 * s.size) :
    Calls Try.prog 11 #[.string s, .int .i64 k] w fun e w' => e = .returned (.int .i64 (bitAt s.data.toList k)) ∧ w = w' := by
  have H := Lib.hid (bitAt_walk s k (by omega))
  go_enter Try.func11, Try.ntmps11
  go_wp2
  go_ret
  exact ⟨by rw [← H.out]; rfl, rfl⟩

theorem bit_out (s : ByteArray) (z : Int) (w : World) (hs : s.size ≤ 1152921504606846975) (hk : z < 0 ∨ 8 * s.size ≤ z) :
    Calls Try.prog 11 #[.string s, .int .i64 z] w fun e w' => e = .returned (.int .i64 0) ∧ w = w' := by
  by_cases h0 : z < 0
  · go_enter Try.func11, Try.ntmps11
    go_wp2
    go_ret
    exact ⟨rfl, rfl⟩
  · have h1 : 8 * (s.size : Int) ≤ z := by omega
    clear hk
    go_enter Try.func11, Try.ntmps11
    go_wp2
    go_ret
    exact ⟨rfl, rfl⟩

/-- bits.Bit, of whatever place. -/
theorem bit_any (s : ByteArray) (z : Int) (w : World) (hs : s.size ≤ 1152921504606846975) :
    Calls Try.prog 11 #[.string s, .int .i64 z] w fun e w' => e = .returned (.int .i64 (bitI s.data.toList z)) ∧ w = w' := by
  unfold bitI
  by_cases h0 : z < 0
  · rw [if_pos h0]; exact bit_out s z w hs (.inl h0)
  · rw [if_neg h0]
    by_cases h1 : 8 * (s.size : Int) ≤ z
    · rw [bitAt_past _ _ (by simp; omega)]; exact bit_out s z w hs (.inr h1)
    · obtain ⟨k, rfl⟩ := Int.eq_ofNat_of_zero_le (show 0 ≤ z by omega)
      exact bit_in s k w hs (by omega)

end Go.Proofs.Ytfanclafohjofaa
