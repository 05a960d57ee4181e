/- plumboblaw02.speaks: true. Conditions: none. -/
import Derived.Test.YtljnfppmnikngaaOctRef
namespace Go.Proofs.Ytljnfppmnikngaa
open Go.RowKit

theorem bu_zero (w : World) (T : TypeId) : Bu (w.alloc (.cells #[.pointer none, .slice none 0 0, .int .i64 0] T)) T w.heap.size 0 #[.pointer none, .slice none 0 0, .int .i64 0] (.slice none 0 0) [] :=
  ⟨heap_alloc_new _ _, .inl rfl, rfl, World.ownsRow_nil _ _ _ _, by simp [Value.ownBlock]⟩
theorem wr_zero (w : World) : Wr (w.alloc (.cells #[.pointer none, .slice none 0 0, .int .i64 0] 40)) w.heap.size (.slice none 0 0) [] 0 := ⟨_, bu_zero w _⟩

theorem k_num : wnL [] 0 258 2 = [1, 2] ∧ okNum 258 2 = true := by decide +kernel
theorem k_text : wtL [1, 2] 0 ⟨#[97]⟩ = [1, 2, 0, 1, 97] ∧ okText ⟨#[97]⟩ = true := by decide +kernel
theorem k_rd : nmN ⟨#[1, 2, 0, 1, 97]⟩ 0 2 = 258 ∧ nmS ⟨#[1, 2, 0, 1, 97]⟩ 0 2 = ⟨#[0, 1, 97]⟩ ∧ nmE ⟨#[1, 2, 0, 1, 97]⟩ 0 2 = 0 := by decide +kernel
theorem k_tx : txT ⟨#[0, 1, 97]⟩ 0 = ⟨#[97]⟩ ∧ txS ⟨#[0, 1, 97]⟩ 0 = ⟨#[]⟩ ∧ txE ⟨#[0, 1, 97]⟩ 0 = 0 := by decide +kernel
theorem k_wb : wbT [1, 2, 0, 1, 97] 0 = ⟨#[1, 2, 0, 1, 97]⟩ := by decide +kernel
theorem k_end : endOf ⟨#[]⟩ 0 = 0 := by decide +kernel

set_option maxHeartbeats 800000 in
theorem speaks_any (w : World) : Calls Try.prog 6 #[] w fun e w' => e = .returned (.bool true) ∧ Below w.heap.size w w' := by
  go_enter Try.func6, Try.ntmps6
  go_wp2_with fail
  have h0 := wr_zero w
  have hs0 : w.heap.size < (w.alloc (.cells #[.pointer none, .slice none 0 0, .int .i64 0] 40)).heap.size := by simp
  have hb0 : Below w.heap.size w (w.alloc (.cells #[.pointer none, .slice none 0 0, .int .i64 0] 40)) := (Below.refl _ _).alloc (Nat.le_refl _) _
  refine (wrNum_any _ 258 2 _ _ _ _ h0 (by decide) (by simp)).mono ?_
  rintro r w2 ⟨rfl, v2, hw2, ht2, hn2⟩
  rw [k_num.1, k_num.2, flBad_ok] at hw2
  go_wp2_with fail
  refine (wrText_any _ ⟨#[97]⟩ _ _ _ _ hw2 (by decide +kernel) (by simp)).mono ?_
  rintro r w3 ⟨rfl, v3, hw3, ht3, hn3⟩
  rw [k_text.1, k_text.2, flBad_ok] at hw3
  go_wp2_with fail
  refine (wrBytes_any _ _ _ _ _ hw3).mono ?_
  rintro r w4 ⟨rfl, ht4⟩
  rw [k_wb]
  go_wp2_with fail
  refine (read_any _ _).mono ?_
  rintro r w5 ⟨rfl, hr5, ht5⟩
  have t2 := ht2
  have t3 := t2.bu hn2 ht3
  have n3 := hn2.trans t2.size hn3
  have t4 := t3.bu n3 ht4
  have t5 : Touch (BuS w.heap.size (.slice none 0 0)) _ w5 := t4.then ht5 (fun _ h => h.elim)
  have hge := t4.size
  clear hw2 hw3 ht2 ht3 ht4 ht5 hn2 hn3 n3 t2 t3 t4 h0
  generalize w4.heap.size = rb at hr5 hge ⊢
  go_wp2_with fail
  refine (rdNum_any rb _ _ 2 _ hr5).mono ?_
  rintro r w6 ⟨rfl, hr6, ht6⟩
  rw [k_rd.2.1, k_rd.2.2] at hr6
  rw [k_rd.1]
  go_wp2_with fail
  refine (text_any rb _ _ _ hr6).mono ?_
  rintro r w7 ⟨rfl, hr7, ht7⟩
  rw [k_tx.2.1, k_tx.2.2] at hr7
  rw [k_tx.1]
  go_wp2_with fail
  refine (end_any rb _ _ _ hr7).mono ?_
  rintro r w' ⟨rfl, rfl⟩
  rw [k_end]
  go_wp2
  go_ret
  refine ⟨rfl, hb0.trans (((t5.then ht6 (fun i hi => .inr (by rw [hi]; exact hge))).then ht7 (fun i hi => .inr (by rw [hi]; exact hge))).below ?_ (by omega))⟩
  intro i hi
  rcases hi with hi | hi
  · omega
  · cases hi

end Go.Proofs.Ytljnfppmnikngaa
