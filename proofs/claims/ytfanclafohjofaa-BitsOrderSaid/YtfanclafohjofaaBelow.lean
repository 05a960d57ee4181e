/- bits.Below: are the first bits of two keys alike? Conditions: texts no longer than the model's bound. -/
import Derived.Test.YtfanclafohjofaaBits
namespace Go.Proofs.Ytfanclafohjofaa
open Go.RowKit


/-- Are the first k bits alike? -/
def alikeTo (a b : List UInt8) : Nat → Bool
  | 0 => true
  | k + 1 => alikeTo a b k && (bitAt a k == bitAt b k)

theorem alikeTo_mono (a b : List UInt8) (k n : Nat) (h : k ≤ n) (hf : alikeTo a b k = false) : alikeTo a b n = false := by
  induction n with
  | zero => obtain rfl : k = 0 := by omega
            exact hf
  | succ n ih =>
    by_cases e : k = n + 1
    · subst e; exact hf
    · simp [alikeTo, ih (by omega)]

set_option maxHeartbeats 400000 in
set_option maxRecDepth 100000 in
theorem below_in (s t : ByteArray) (d : Int) (n : Nat) (w : World) (hs : s.size ≤ 1152921504606846975) (ht : t.size ≤ 1152921504606846975)
    (hd : (d < 0 ∧ n = 0) ∨ (0 ≤ d ∧ d ≤ 128 ∧ d = n) ∨ (128 < d ∧ n = 128)) :
    Calls Try.prog 9 #[.string s, .string t, .int .i64 d] w fun e w' => e = .returned (.bool (alikeTo s.data.toList t.data.toList n)) ∧ w = w' := by
  rcases hd with ⟨hd, hn⟩ | ⟨h0, h1, hn⟩ | ⟨hd, hn⟩
  · obtain ⟨n1, n2⟩ : n ≤ 0 ∧ 0 ≤ n := by omega
    clear hn
    go_enter Try.func9, Try.ntmps9
    go_wp2
    go_loop [11] (fun i => ∃ k : Nat, k ≤ n ∧ i = .int .i64 k ∧ alikeTo s.data.toList t.data.toList k = true) (fun i => n - (intOf i).toNat)
    case atStart => exact ⟨0, Nat.zero_le _, rfl, rfl⟩
    case round =>
      obtain ⟨k, hk, rfl, hal⟩ := hrel
      have Hal := Lib.hid hal
      clear hal
      by_cases hlt : k < n
      · omega
      · have hkn : k = n := by omega
        have Hf : Hid (alikeTo s.data.toList t.data.toList n = true) := by rw [← hkn]; exact Hal.out
        clear hkn
        go_wp2
        go_ret
        exact ⟨by rw [Hf.out]; rfl, rfl⟩
  · subst hn
    go_enter Try.func9, Try.ntmps9
    go_wp2
    go_loop [11] (fun i => ∃ k : Nat, k ≤ n ∧ i = .int .i64 k ∧ alikeTo s.data.toList t.data.toList k = true) (fun i => n - (intOf i).toNat)
    case atStart => exact ⟨0, Nat.zero_le _, rfl, rfl⟩
    case round =>
      obtain ⟨k, hk, rfl, hal⟩ := hrel
      have Hal := Lib.hid hal
      clear hal
      by_cases hlt : k < n
      · have s1 := Lib.hid (show alikeTo s.data.toList t.data.toList (k + 1) = (alikeTo s.data.toList t.data.toList k && (bitAt s.data.toList k == bitAt t.data.toList k)) from rfl)
        go_wp2_with fail
        refine (bit_any s k _ hs).mono ?_
        rintro e w' ⟨rfl, rfl⟩
        go_wp2_with fail
        refine (bit_any t k _ ht).mono ?_
        rintro e w' ⟨rfl, rfl⟩
        rw [bitI_nat, bitI_nat]
        by_cases hb : bitAt s.data.toList k = bitAt t.data.toList k
        · have hb' : (bitAt s.data.toList k != bitAt t.data.toList k) = false := by simp [hb]
          rw [beq_iff_eq.2 hb, Hal.out] at s1
          clear hb
          go_wp2
          go_round
          case rel => exact ⟨k + 1, by omega, by go_num, s1.out⟩
          case measure => simp [intOf]; omega
        · have hb' : (bitAt s.data.toList k != bitAt t.data.toList k) = true := by simp [hb]
          have hf := Lib.hid (alikeTo_mono s.data.toList t.data.toList (k + 1) n (by omega) (by rw [s1.out, beq_eq_false_iff_ne.2 hb, Bool.and_false]))
          clear hb
          go_wp2
          go_ret
          exact ⟨by rw [hf.out]; rfl, rfl⟩
      · obtain rfl : k = n := by omega
        go_wp2
        go_ret
        exact ⟨by rw [Hal.out]; rfl, rfl⟩
  · have Hn := Lib.hid hn
    clear hn
    go_enter Try.func9, Try.ntmps9
    go_wp2
    go_loop [11] (fun i => ∃ k : Nat, k ≤ n ∧ i = .int .i64 k ∧ alikeTo s.data.toList t.data.toList k = true) (fun i => n - (intOf i).toNat)
    case atStart => exact ⟨0, Nat.zero_le _, rfl, rfl⟩
    case round =>
      obtain ⟨k, hk, rfl, hal⟩ := hrel
      have Hal := Lib.hid hal
      clear hal hd
      have hk128 : k ≤ 128 := by rw [← Hn.out]; exact hk
      by_cases hlt : k < 128
      · have s1 := Lib.hid (show alikeTo s.data.toList t.data.toList (k + 1) = (alikeTo s.data.toList t.data.toList k && (bitAt s.data.toList k == bitAt t.data.toList k)) from rfl)
        go_wp2_with fail
        refine (bit_any s k _ hs).mono ?_
        rintro e w' ⟨rfl, rfl⟩
        go_wp2_with fail
        refine (bit_any t k _ ht).mono ?_
        rintro e w' ⟨rfl, rfl⟩
        rw [bitI_nat, bitI_nat]
        by_cases hb : bitAt s.data.toList k = bitAt t.data.toList k
        · have hb' : (bitAt s.data.toList k != bitAt t.data.toList k) = false := by simp [hb]
          rw [beq_iff_eq.2 hb, Hal.out] at s1
          clear hb
          go_wp2
          go_round
          case rel => exact ⟨k + 1, by rw [Hn.out]; omega, by go_num, s1.out⟩
          case measure => rw [Hn.out]; simp [intOf]; omega
        · have hb' : (bitAt s.data.toList k != bitAt t.data.toList k) = true := by simp [hb]
          have hf := Lib.hid (alikeTo_mono s.data.toList t.data.toList (k + 1) n (by rw [Hn.out]; omega) (by rw [s1.out, beq_eq_false_iff_ne.2 hb, Bool.and_false]))
          clear hb
          go_wp2
          go_ret
          exact ⟨by rw [hf.out]; rfl, rfl⟩
      · have hkn : k = n := by rw [Hn.out]; omega
        have Hf : Hid (alikeTo s.data.toList t.data.toList n = true) := by rw [← hkn]; exact Hal.out
        clear hkn
        go_wp2
        go_ret
        exact ⟨by rw [Hf.out]; rfl, rfl⟩
/-- How many bits it looks at. -/
def depthNat (d : Int) : Nat := (min (max d 0) 128).toNat
theorem below_any (s t : ByteArray) (d : Int) (w : World) (hs : s.size ≤ 1152921504606846975) (ht : t.size ≤ 1152921504606846975) :
    Calls Try.prog 9 #[.string s, .string t, .int .i64 d] w fun e w' => e = .returned (.bool (alikeTo s.data.toList t.data.toList (depthNat d))) ∧ w = w' := by
  refine below_in s t d _ w hs ht ?_
  unfold depthNat
  omega

end Go.Proofs.Ytfanclafohjofaa
