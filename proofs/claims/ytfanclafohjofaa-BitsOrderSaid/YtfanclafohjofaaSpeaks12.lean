/- plumboblaw12.speaks: true. Conditions: none. -/
import Derived.Test.YtfanclafohjofaaFirst
import Derived.Test.YtfanclafohjofaaCommon
namespace Go.Proofs.Ytfanclafohjofaa
open Go.RowKit

theorem k_band : bandI (ByteArray.mk #[160, 0]).data.toList 3 = 5 := by decide +kernel
theorem k_bit : bitI (ByteArray.mk #[64]).data.toList 1 = 1 := by decide +kernel
theorem k_common (n : Nat) (h1 : n ≤ 8 * 1) (h2 : alikeTo (ByteArray.mk #[160]).data.toList (ByteArray.mk #[161]).data.toList n = true) (h3 : n < 8 * 1 → bitAt (ByteArray.mk #[160]).data.toList n ≠ bitAt (ByteArray.mk #[161]).data.toList n) : n = 7 := by
  have : ∀ n : Fin 9, alikeTo (ByteArray.mk #[160]).data.toList (ByteArray.mk #[161]).data.toList n.val = true → (n.val < 8 * 1 → bitAt (ByteArray.mk #[160]).data.toList n.val ≠ bitAt (ByteArray.mk #[161]).data.toList n.val) → n.val = 7 := by decide +kernel
  exact this ⟨n, by omega⟩ h2 h3
theorem k_first : (ByteArray.mk (firstOf 5 3).toArray).size = 16 ∧ (firstOf 5 3) = 160 :: List.replicate 15 0 := by decide +kernel

theorem speaks_any (w : World) : Calls Try.prog 5 #[] w fun e w' => e = .returned (.bool true) ∧ Below w.heap.size w w' := by
  go_enter Try.func5, Try.ntmps5
  go_wp2_with fail
  refine (band_any _ 3 _ (by decide +kernel)).mono ?_
  rintro e w' ⟨rfl, rfl⟩
  rw [k_band]
  go_wp2_with fail
  refine (bit_any _ 1 _ (by decide +kernel)).mono ?_
  rintro e w' ⟨rfl, rfl⟩
  rw [k_bit]
  go_wp2_with fail
  refine (common_any _ _ 1 _ (by decide +kernel) (by decide +kernel) (by decide)).mono ?_
  rintro e w' ⟨n, rfl, h1, h2, h3, q, rfl⟩
  obtain rfl := k_common n h1 h2 h3
  clear h1 h2 h3
  go_wp2_with fail
  refine (first_any 5 3 _).mono ?_
  rintro e w2 ⟨rfl, hb⟩
  rw [k_first.2]
  go_wp2
  go_ret
  refine ⟨?_, Below.trans (b := w.drewN q) ⟨rfl, rfl, rfl, Nat.le_refl _, fun _ _ => rfl⟩ hb⟩
  exact congrArg (fun b => Ending.returned (.bool b)) (by decide +kernel)

end Go.Proofs.Ytfanclafohjofaa
