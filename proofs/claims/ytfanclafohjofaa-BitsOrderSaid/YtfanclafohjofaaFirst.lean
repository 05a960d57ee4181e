/- bits.First: the first key of a band. Conditions: none. -/
import Derived.Test.YtfanclafohjofaaBand
namespace Go.Proofs.Ytfanclafohjofaa
open Go.RowKit

theorem make16 (w : World) : (Instr.makeSlice 24 (.int .i64 16) (.int .i64 16)).run Try.prog w = .ok (.slice (some ⟨w.heap.size, 0, none⟩) 16 16) (w.alloc (.cells (Array.replicate 16 (.int .u8 0)) 5)) := by kernel_rfl

def p2 (d : Nat) : Int := 2 ^ d
/-- The first two bytes of a band's first key, as a number. -/
def topOf (b : Int) (d : Nat) : Int := b * 2 ^ (16 - d)
def twoBytes (t : Int) : List UInt8 := [UInt8.ofNat (t / 256).toNat, UInt8.ofNat (t % 256).toNat] ++ List.replicate 14 0
def zeros16 : List UInt8 := List.replicate 16 0

theorem p2_bd (d : Nat) (h : d ≤ 16) : 1 ≤ p2 d ∧ p2 d ≤ 65536 := by
  unfold p2
  have h1 : (2 : Int) ^ d ≤ 2 ^ 16 := by exact_mod_cast Nat.pow_le_pow_right (by decide) h
  have h2 : (1 : Int) ≤ 2 ^ d := by exact_mod_cast Nat.one_le_two_pow
  have h3 : (2 : Int) ^ 16 = 65536 := by decide
  omega
theorem p2_wrap (d : Nat) (h : d ≤ 16) : wrap64 (2 ^ d) = p2 d := by
  have := p2_bd d h
  exact IntWalk.wrap64_in _ (by unfold p2 at this; omega)
theorem topOf_bd (b : Int) (d : Nat) (h : d ≤ 16) (h0 : 0 ≤ b) (h1 : b < p2 d) : 0 ≤ topOf b d ∧ topOf b d < 65536 := by
  unfold topOf
  have h2 : (0 : Int) < 2 ^ (16 - d) := by exact_mod_cast Nat.two_pow_pos _
  have h3 : (2 : Int) ^ d * 2 ^ (16 - d) = 65536 := by rw [← Int.pow_add, show d + (16 - d) = 16 from by omega]; decide
  refine ⟨Int.mul_nonneg h0 (by omega), ?_⟩
  rw [← h3]
  exact Int.mul_lt_mul_of_pos_right h1 h2
theorem topOf_wrap (b : Int) (d : Nat) (h : d ≤ 16) (h0 : 0 ≤ b) (h1 : b < p2 d) : wrap64 (b * 2 ^ (16 - d)) = topOf b d := by
  have := topOf_bd b d h h0 h1
  exact IntWalk.wrap64_in _ (by unfold topOf at this; omega)

theorem twoBytes_cells (t : Int) (h0 : 0 ≤ t) (h1 : t < 65536) : ((Array.replicate 16 (Value.int .u8 0)).setIfInBounds 0 (.int .u8 (t / 256))).setIfInBounds 1 (.int .u8 (t % 256)) = (bytesV (twoBytes t)).toArray := by
  have e1 : (((UInt8.ofNat (t / 256).toNat).toNat : Nat) : Int) = t / 256 := by simp; omega
  have e2 : (((UInt8.ofNat (t % 256).toNat).toNat : Nat) : Int) = t % 256 := by simp; omega
  unfold twoBytes bytesV
  simp only [List.map_append, List.map_cons, List.map_nil, e1, e2]
  rfl
theorem string_two (t : Int) (h0 : 0 ≤ t) (h1 : t < 65536) (w : World) : (convert 24 9 (.slice (some ⟨w.heap.size, 0, none⟩) 16 16)).run Try.prog (w.alloc (.cells (((Array.replicate 16 (.int .u8 0)).setIfInBounds 0 (.int .u8 (t / 256))).setIfInBounds 1 (.int .u8 (t % 256))) 5)) = .ok (.string ⟨(twoBytes t).toArray⟩) (w.alloc (.cells (((Array.replicate 16 (.int .u8 0)).setIfInBounds 0 (.int .u8 (t / 256))).setIfInBounds 1 (.int .u8 (t % 256))) 5)) := by
  rw [twoBytes_cells t h0 h1]
  exact run_string_block Try.underlying24 Try.underlying5 Try.underlying9 (heap_alloc_new w _) rfl
theorem string_zeros (w : World) : (convert 24 9 (.slice (some ⟨w.heap.size, 0, none⟩) 16 16)).run Try.prog (w.alloc (.cells (Array.replicate 16 (.int .u8 0)) 5)) = .ok (.string ⟨zeros16.toArray⟩) (w.alloc (.cells (Array.replicate 16 (.int .u8 0)) 5)) := by
  have e : Array.replicate 16 (Value.int .u8 0) = (bytesV zeros16).toArray := rfl
  rw [e]
  exact run_string_block Try.underlying24 Try.underlying5 Try.underlying9 (heap_alloc_new w _) rfl

theorem first_in (b : Int) (d : Nat) (w : World) (hd : d ≤ 16) (h0 : 0 ≤ b) (hb : b < p2 d) :
    Calls Try.prog 7 #[.int .i64 b, .int .i64 d] w fun e w' => e = .returned (.string ⟨(twoBytes (topOf b d)).toArray⟩) ∧ Below w.heap.size w w' := by
  have hmk := make16
  have hp := p2_wrap d hd
  obtain ⟨p1, p3⟩ := p2_bd d hd
  have ht := topOf_wrap b d hd h0 hb
  obtain ⟨t1, t3⟩ := topOf_bd b d hd h0 hb
  have hst := string_two (topOf b d) t1 t3
  go_enter Try.func7, Try.ntmps7
  go_wp2
  go_ret
  exact ⟨rfl, (Below.refl _ _).alloc (Nat.le_refl _) _⟩

theorem first_out (b d : Int) (w : World) (h : d < 0 ∨ 16 < d ∨ (0 ≤ d ∧ d ≤ 16 ∧ (b < 0 ∨ p2 d.toNat ≤ b))) :
    Calls Try.prog 7 #[.int .i64 b, .int .i64 d] w fun e w' => e = .returned (.string ⟨zeros16.toArray⟩) ∧ Below w.heap.size w w' := by
  have hmk := make16
  have hst := string_zeros
  rcases h with h | h | ⟨h0, h1, h | h⟩
  · go_enter Try.func7, Try.ntmps7
    go_wp2
    go_ret
    exact ⟨rfl, (Below.refl _ _).alloc (Nat.le_refl _) _⟩
  · have h0 : 0 ≤ d := by omega
    go_enter Try.func7, Try.ntmps7
    go_wp2
    go_ret
    exact ⟨rfl, (Below.refl _ _).alloc (Nat.le_refl _) _⟩
  · go_enter Try.func7, Try.ntmps7
    go_wp2
    go_ret
    exact ⟨rfl, (Below.refl _ _).alloc (Nat.le_refl _) _⟩
  · obtain ⟨k, rfl⟩ := Int.eq_ofNat_of_zero_le h0
    have hp := p2_wrap k (by omega)
    rw [Int.toNat_natCast] at h
    have hb := p2_bd k (by omega)
    have hb0 : 0 ≤ b := by omega
    clear hb
    go_enter Try.func7, Try.ntmps7
    go_wp2
    go_ret
    exact ⟨rfl, (Below.refl _ _).alloc (Nat.le_refl _) _⟩

/-- The first key of a band, or noughts. -/
def firstOf (b d : Int) : List UInt8 := if 0 ≤ d ∧ d ≤ 16 ∧ 0 ≤ b ∧ b < p2 d.toNat then twoBytes (topOf b d.toNat) else zeros16
theorem first_any (b d : Int) (w : World) :
    Calls Try.prog 7 #[.int .i64 b, .int .i64 d] w fun e w' => e = .returned (.string ⟨(firstOf b d).toArray⟩) ∧ Below w.heap.size w w' := by
  unfold firstOf
  by_cases h : 0 ≤ d ∧ d ≤ 16 ∧ 0 ≤ b ∧ b < p2 d.toNat
  · rw [if_pos h]
    obtain ⟨h0, h1, h2, h3⟩ := h
    obtain ⟨k, rfl⟩ := Int.eq_ofNat_of_zero_le h0
    rw [Int.toNat_natCast] at h3 ⊢
    exact first_in b k w (by omega) h2 h3
  · rw [if_neg h]
    refine first_out b d w ?_
    by_cases h0 : d < 0
    · exact .inl h0
    · by_cases h1 : 16 < d
      · exact .inr (.inl h1)
      · refine .inr (.inr ⟨by omega, by omega, ?_⟩)
        by_cases h2 : b < 0
        · exact .inl h2
        · refine .inr ?_
          by_cases h3 : b < p2 d.toNat
          · exact absurd ⟨by omega, by omega, by omega, h3⟩ h
          · omega

end Go.Proofs.Ytfanclafohjofaa
