/- plumbobref12.Bit: the bit of a text by halving its byte: the same as bits.Bit's. Conditions: texts no longer than the model's bound. -/
import Derived.Test.YtfanclafohjofaaBits
namespace Go.Proofs.Ytfanclafohjofaa
open Go.RowKit

set_option maxHeartbeats 400000 in
theorem refBit_in (s : ByteArray) (k : Nat) (w : World) (hs : s.size ≤ 1152921504606846975) (hk : k < 8 * s.size) :
    Calls Try.prog 6 #[.string s, .int .i64 k] w fun e w' => e = .returned (.int .i64 (bitAt s.data.toList k)) ∧ w = w' := by
  go_enter Try.func6, Try.ntmps6
  have hb := (s[k / 8]).toNat_lt
  have hw : wrap64 ((s[k / 8]).toNat : Int) = ((s[k / 8]).toNat : Int) := IntWalk.wrap64_in _ (by omega)
  have e3 : s.data.toList.getD (k / 8) 0 = s[k / 8] := by
    rw [List.getD_eq_getElem?_getD, List.getElem?_eq_getElem (by simpa using (show k / 8 < s.size by omega))]; rfl
  have Hfin := Lib.hid (show bitAt s.data.toList k = (((s[k / 8]).toNat / 2 ^ (7 - k % 8) % 2 : Nat) : Int) by unfold bitAt; rw [e3])
  clear e3
  go_wp2
  generalize (s[k / 8]).toNat = b at hb Hfin
  clear hw
  go_loop [5, 6] (fun n i => ∃ j : Nat, k % 8 ≤ j ∧ j ≤ 7 ∧ i = .int .i64 j ∧ n = .int .i64 ((b / 2 ^ (j - k % 8) : Nat) : Int)) (fun _ i => 7 - (intOf i).toNat)
  case atStart => exact ⟨k % 8, Nat.le_refl _, by omega, by go_num, by simp⟩
  case round =>
    obtain ⟨j, hj0, hj1, rfl, rfl⟩ := hrel
    have hq : b / 2 ^ (j - k % 8) ≤ b := Nat.div_le_self _ _
    have hs1 : b / 2 ^ (j + 1 - k % 8) = b / 2 ^ (j - k % 8) / 2 := by
      rw [show j + 1 - k % 8 = (j - k % 8) + 1 from by omega, Nat.pow_succ, Nat.div_div_eq_div_mul]
    have Hs := Lib.hid hs1
    clear hs1
    by_cases hlt : j < 7
    · generalize b / 2 ^ (j - k % 8) = q at hq Hs
      go_wp2
      go_round
      case rel => exact ⟨j + 1, by omega, by omega, by go_num, by rw [Hs.out]; go_num⟩
      case measure => simp [intOf]; omega
    · obtain rfl : j = 7 := by omega
      generalize b / 2 ^ (7 - k % 8) = q at hq Hfin
      go_wp2
      go_ret
      exact ⟨by rw [Hfin.out]; exact ret_int (by simp), rfl⟩

theorem refBit_out (s : ByteArray) (z : Int) (w : World) (hs : s.size ≤ 1152921504606846975) (hk : z < 0 ∨ 8 * s.size ≤ z) :
    Calls Try.prog 6 #[.string s, .int .i64 z] w fun e w' => e = .returned (.int .i64 0) ∧ w = w' := by
  by_cases h0 : z < 0
  · go_enter Try.func6, Try.ntmps6
    go_wp2
    go_ret
    exact ⟨rfl, rfl⟩
  · have h1 : 8 * (s.size : Int) ≤ z := by omega
    clear hk
    go_enter Try.func6, Try.ntmps6
    go_wp2
    go_ret
    exact ⟨rfl, rfl⟩

theorem refBit_any (s : ByteArray) (z : Int) (w : World) (hs : s.size ≤ 1152921504606846975) :
    Calls Try.prog 6 #[.string s, .int .i64 z] w fun e w' => e = .returned (.int .i64 (bitI s.data.toList z)) ∧ w = w' := by
  unfold bitI
  by_cases h0 : z < 0
  · rw [if_pos h0]; exact refBit_out s z w hs (.inl h0)
  · rw [if_neg h0]
    by_cases h1 : 8 * (s.size : Int) ≤ z
    · rw [bitAt_past _ _ (by simp; omega)]; exact refBit_out s z w hs (.inr h1)
    · obtain ⟨k, rfl⟩ := Int.eq_ofNat_of_zero_le (show 0 ≤ z by omega)
      exact refBit_in s k w hs (by omega)

end Go.Proofs.Ytfanclafohjofaa
