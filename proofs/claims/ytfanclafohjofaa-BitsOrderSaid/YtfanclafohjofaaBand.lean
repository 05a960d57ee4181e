/- bits.Band: the number of a key's first bits. Conditions: texts no longer than the model's bound. -/
import Derived.Test.YtfanclafohjofaaBits
namespace Go.Proofs.Ytfanclafohjofaa
open Go.RowKit

/-- The number of the first k bits. -/
def bandTo (l : List UInt8) : Nat → Int
  | 0 => 0
  | k + 1 => 2 * bandTo l k + bitAt l k
def bandI (l : List UInt8) (d : Int) : Int := if 0 ≤ d ∧ d ≤ 16 then bandTo l d.toNat else 0

theorem bandTo_bd (l : List UInt8) (k : Nat) : 0 ≤ bandTo l k ∧ bandTo l k < 2 ^ k := by
  induction k with
  | zero => simp [bandTo]
  | succ k ih => have := bitAt_bd l k; simp only [bandTo, Int.pow_succ]; omega
theorem bandTo_bd16 (l : List UInt8) (k : Nat) (h : k ≤ 16) : 0 ≤ bandTo l k ∧ bandTo l k < 65536 := by
  have h1 := bandTo_bd l k
  have h2 : (2 : Int) ^ k ≤ 2 ^ 16 := by exact_mod_cast Nat.pow_le_pow_right (by decide) h
  have h3 : (2 : Int) ^ 16 = 65536 := by decide
  omega

set_option maxHeartbeats 400000 in
theorem band_in (s : ByteArray) (d : Nat) (w : World) (hs : s.size ≤ 1152921504606846975) (hd : d ≤ 16) :
    Calls Try.prog 8 #[.string s, .int .i64 d] w fun e w' => e = .returned (.int .i64 (bandTo s.data.toList d)) ∧ w = w' := by
  go_enter Try.func8, Try.ntmps8
  go_wp2
  go_loop [5, 14] (fun n i => ∃ k : Nat, k ≤ d ∧ i = .int .i64 k ∧ n = .int .i64 (bandTo s.data.toList k)) (fun _ i => d - (intOf i).toNat)
  case atStart => exact ⟨0, Nat.zero_le _, rfl, rfl⟩
  case round =>
    obtain ⟨k, hk, rfl, rfl⟩ := hrel
    by_cases hlt : k < d
    · obtain ⟨b1, b2⟩ := bandTo_bd16 s.data.toList k (by omega)
      obtain ⟨b3, b4⟩ := bitAt_bd s.data.toList k
      go_wp2_with fail
      refine (bit_any s k _ hs).mono ?_
      rintro e w' ⟨rfl, rfl⟩
      rw [bitI_nat]
      go_wp2
      go_round
      case rel => exact ⟨k + 1, by omega, by go_num, by rw [i64_orBit _ _ b1 (by omega) b3 b4]; rfl⟩
      case measure => simp [intOf]; omega
    · obtain rfl : k = d := by omega
      go_wp2
      go_ret
      exact ⟨rfl, rfl⟩

theorem band_out (s : ByteArray) (d : Int) (w : World) (hd : d < 0 ∨ 16 < d) :
    Calls Try.prog 8 #[.string s, .int .i64 d] w fun e w' => e = .returned (.int .i64 0) ∧ w = w' := by
  by_cases h0 : d < 0
  · go_enter Try.func8, Try.ntmps8
    go_wp2
    go_ret
    exact ⟨rfl, rfl⟩
  · have h1 : 16 < d := by omega
    clear hd
    go_enter Try.func8, Try.ntmps8
    go_wp2
    go_ret
    exact ⟨rfl, rfl⟩

/-- bits.Band, of whatever depth. -/
theorem band_any (s : ByteArray) (d : Int) (w : World) (hs : s.size ≤ 1152921504606846975) :
    Calls Try.prog 8 #[.string s, .int .i64 d] w fun e w' => e = .returned (.int .i64 (bandI s.data.toList d)) ∧ w = w' := by
  unfold bandI
  by_cases h0 : 0 ≤ d ∧ d ≤ 16
  · rw [if_pos h0]
    obtain ⟨k, rfl⟩ := Int.eq_ofNat_of_zero_le h0.1
    exact band_in s k w hs (by omega)
  · rw [if_neg h0]; exact band_out s d w (by omega)

end Go.Proofs.Ytfanclafohjofaa
