/- plumbobref02.Num and Get: the same bytes and numbers as octet's. Conditions: Get at eight bytes at most. -/
import Derived.Test.YtkjekofllfkgoaaDoorWriter
import Derived.Test.YtkjekofllfkgoaaDoorReader
namespace Go.Proofs.YtkjekofllfkgoaaDoor
open Go.RowKit

/-- The lowest k bytes, the highest of them first. -/
def lowTo (n : Nat) : Nat → List UInt8
  | 0 => []
  | k + 1 => byteAt n k :: lowTo n k
theorem low_bytes (n size : Nat) : ∀ j, j ≤ size → bytesTo n size j ++ lowTo n (size - j) = lowTo n size := by
  intro j
  induction j with
  | zero => intro _; rfl
  | succ j ih =>
    intro hj
    rw [← ih (by omega), bytesTo, List.append_assoc, show size - j = (size - (j + 1)) + 1 from by omega, lowTo, show size - 1 - j = size - (j + 1) from by omega]
    rfl
theorem bytes_low (n size : Nat) : bytesTo n size size = lowTo n size := by
  have := low_bytes n size size (Nat.le_refl _)
  rw [Nat.sub_self] at this
  simpa [lowTo] using this

theorem lowTo_le (n k : Nat) : (lowTo n k).length = k := by
  induction k with
  | zero => rfl
  | succ k ih => simp [lowTo, ih]
theorem string_one (q : Nat) (w : World) : (convert 41 9 (.slice (some ⟨w.heap.size, 0, none⟩) 1 1)).run Tryd.prog (w.alloc (.cells #[.int .u8 ((q : Int) % 256)] 5)) = .ok (.string ⟨[UInt8.ofNat q].toArray⟩) (w.alloc (.cells #[.int .u8 ((q : Int) % 256)] 5)) := by
  have e : (#[.int .u8 ((q : Int) % 256)] : Array Value) = (bytesV [UInt8.ofNat q]).toArray := by simp [bytesV]
  rw [e]
  exact run_string_block Tryd.underlying41 Tryd.underlying5 Tryd.underlying9 (heap_alloc_new w _) rfl

set_option maxHeartbeats 800000 in
theorem refNum_in (n size : Nat) (w : World) (hn : n < 18446744073709551616) (h1 : 1 ≤ size) (h8 : size ≤ 8) :
    Calls Tryd.prog 25 #[.int .u64 n, .int .i64 size] w fun e w' => e = .returned (.string (if n < 256 ^ size then ⟨(bytesTo n size size).toArray⟩ else ⟨#[]⟩)) ∧ Below w.heap.size w w' := by
  have hd8 : decide ((size : Int) ≤ 8) = true := by simp; omega
  have HR1 : Hid (n < 256 ^ size → (if n < 256 ^ size then (⟨(bytesTo n size size).toArray⟩ : ByteArray) else ⟨#[]⟩) = ⟨(lowTo n size).toArray⟩) := fun h => by rw [if_pos h, bytes_low]
  have HR2 : Hid (¬ n < 256 ^ size → (if n < 256 ^ size then (⟨(bytesTo n size size).toArray⟩ : ByteArray) else ⟨#[]⟩) = ⟨#[]⟩) := fun h => if_neg h
  generalize (if n < 256 ^ size then (⟨(bytesTo n size size).toArray⟩ : ByteArray) else ⟨#[]⟩) = R at HR1 HR2
  go_enter Tryd.func25, Tryd.ntmps25
  go_wp2
  go_loopw [0, 5, 6] (fun m s i W => ∃ k : Nat, k ≤ size ∧ i = .int .i64 k ∧ m = .int .u64 ((n / 256 ^ k : Nat) : Int) ∧ s = .string ⟨(lowTo n k).toArray⟩ ∧ Below w.heap.size w W) (fun _ _ i _ => size - (intOf i).toNat)
  case atStart => exact ⟨0, Nat.zero_le _, rfl, by simp, rfl, Below.refl _ _⟩
  case round =>
    obtain ⟨k, hk, rfl, rfl, rfl, hB⟩ := hrel
    by_cases hlt : k < size
    · have hq : n / 256 ^ k < 18446744073709551616 := Nat.lt_of_le_of_lt (Nat.div_le_self _ _) hn
      have Hq := Lib.hid (show n / 256 ^ (k + 1) = n / 256 ^ k / 256 by rw [Nat.pow_succ, Nat.div_div_eq_div_mul])
      have Hl := Lib.hid (show lowTo n (k + 1) = UInt8.ofNat (n / 256 ^ k) :: lowTo n k from rfl)
      generalize n / 256 ^ k = q at hq Hq Hl
      have hst := string_one q
      have hlen := lowTo_le n k
      go_wp2
      go_roundw
      case rel => exact ⟨k + 1, by omega, by go_num, by rw [Hq.out]; go_num, by rw [Hl.out, bytes_concat [UInt8.ofNat q] (lowTo n k)]; rfl, hB.alloc hB.size _⟩
      case measure => simp [intOf]; omega
    · obtain rfl : k = size := by omega
      by_cases hlt2 : n < 256 ^ k
      · have hq : n / 256 ^ k = 0 := Nat.div_eq_of_lt hlt2
        have HR := Lib.hid (HR1.out hlt2)
        rw [hq]
        clear hlt2
        have hz : decide ((0 : Int) < ((0 : Nat) : Int)) = false := by simp
        go_wp2
        go_ret
        exact ⟨by rw [HR.out]; rfl, hB⟩
      · have hq : 0 < n / 256 ^ k := Nat.div_pos (by omega) (Nat.pow_pos (by decide))
        have HR := Lib.hid (HR2.out hlt2)
        generalize n / 256 ^ k = q at hq
        clear hlt2
        go_wp2
        go_ret
        exact ⟨by rw [HR.out]; rfl, hB⟩

theorem refNum_out (n : Nat) (z : Int) (w : World) (hz : z < 1 ∨ 8 < z) :
    Calls Tryd.prog 25 #[.int .u64 n, .int .i64 z] w fun e w' => e = .returned (.string ⟨#[]⟩) ∧ w = w' := by
  have hc : z < 1 ∨ (1 ≤ z ∧ 8 < z) := by omega
  clear hz
  rcases hc with h | ⟨h0, h⟩
  all_goals
    go_enter Tryd.func25, Tryd.ntmps25
    go_wp2
    refine wp_loop_rounds 1 ?_
    rw [rounds_succ]
    by_cases hn : (0 : Int) < n
    · go_wp2
      go_ret
      exact ⟨rfl, rfl⟩
    · go_wp2
      go_ret
      exact ⟨rfl, rfl⟩

/-- What the reference writes: the bytes, or the empty text. -/
def refBytes (n : Nat) (z : Int) : List UInt8 := if okNum n z = true then bytesTo n z.toNat z.toNat else []
theorem refNum_any (n : Nat) (z : Int) (w : World) (hn : n < 18446744073709551616) :
    Calls Tryd.prog 25 #[.int .u64 n, .int .i64 z] w fun e w' => e = .returned (.string ⟨(refBytes n z).toArray⟩) ∧ Below w.heap.size w w' := by
  unfold refBytes
  by_cases h1 : 1 ≤ z ∧ z ≤ 8
  · obtain ⟨k, rfl⟩ := Int.eq_ofNat_of_zero_le (show 0 ≤ z by omega)
    have h := refNum_in n k w hn (by omega) (by omega)
    by_cases h2 : n < 256 ^ k
    · rw [if_pos h2] at h
      rw [if_pos (show okNum n k = true from decide_eq_true ⟨h1.1, h1.2, by rw [Int.toNat_natCast]; exact h2⟩), Int.toNat_natCast]
      exact h
    · rw [if_neg h2] at h
      rw [if_neg (show ¬ okNum n k = true from fun e => h2 (by have := of_decide_eq_true e; rw [Int.toNat_natCast] at this; exact this.2.2))]
      exact h
  · rw [if_neg (show ¬ okNum n z = true from fun e => h1 ⟨(of_decide_eq_true e).1, (of_decide_eq_true e).2.1⟩)]
    exact (refNum_out n z w (by omega)).mono fun e w' ⟨he, hw⟩ => ⟨he, by rw [← hw]; exact Below.refl _ _⟩

end Go.Proofs.YtkjekofllfkgoaaDoor
