/- plumboblaw05.speaks: true. Conditions: none. -/
import Derived.Test.YtnccifakpimndaaOf
import Derived.Outline
namespace Go.Proofs.Ytnccifakpimndaa
open Go.RowKit

theorem make16 (w : World) : (Instr.makeSlice 28 (.int .i64 16) (.int .i64 16)).run Try.prog w = .ok (.slice (some ⟨w.heap.size, 0, none⟩) 16 16) (w.alloc (.cells (Array.replicate 16 (.int .u8 0)) 5)) := by kernel_rfl
def noughts : ByteArray := ⟨(List.replicate 16 0).toArray⟩
theorem string16 (w : World) : (convert 28 9 (.slice (some ⟨w.heap.size, 0, none⟩) 16 16)).run Try.prog (w.alloc (.cells (Array.replicate 16 (.int .u8 0)) 5)) = .ok (.string noughts) (w.alloc (.cells (Array.replicate 16 (.int .u8 0)) 5)) :=
  run_string_cells Try.underlying28 Try.underlying5 Try.underlying9 (l := List.replicate 16 0) (by
    have := cells_alloc w (Array.replicate 16 (.int .u8 0)) 5 16
    simpa [bytesV] using this)

theorem digs_noughts : (digs noughts.data.toList).getD 32 0 = 1 ∧ (digs noughts.data.toList).getD 33 0 = 14 ∧ (digs noughts.data.toList).getD 34 0 = 0 ∧ (digs noughts.data.toList).length = 35 := by decide +kernel

theorem speaks_any (w : World) : Calls Try.prog 6 #[] w fun e w' => e = .returned (.bool true) ∧ Below w.heap.size w w' := by
  have hmk := make16
  have hst := string16
  go_enter Try.func6, Try.ntmps6
  go_wp2_with fail
  refine (of_yes noughts _ (by decide +kernel)).mono ?_
  rintro e w' ⟨v', rfl, ho, hb⟩
  obtain ⟨a, cap, hv, hc⟩ := (cells_of_own ho).openInts
  obtain ⟨d32, d33, d34, hl⟩ := digs_noughts
  rw [hl] at hv hc
  obtain ⟨b, off, rfl, hlt, hc⟩ := hc 0 (by decide)
  rw [hv]
  have h32 := hc 32 (by decide)
  have h33 := hc 33 (by decide)
  have h34 := hc 34 (by decide)
  rw [d32] at h32
  rw [d33] at h33
  rw [d34] at h34
  have hB : Below w.heap.size w w' := ((Below.refl _ _).alloc (Nat.le_refl _) _).trans (hb.mono (by simp))
  clear hc d32 d33 d34 hl ho hb hv
  go_wp2
  go_ret
  exact ⟨rfl, hB⟩

end Go.Proofs.Ytnccifakpimndaa
