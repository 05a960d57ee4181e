/- plumbobref05.Of: of sixteen bytes the same thirty-five digits. Conditions: sixteen bytes. -/
import Derived.Test.YtnccifakpimndaaOf
namespace Go.Proofs.Ytnccifakpimndaa
open Go.RowKit

theorem hiOf_div (b : UInt8) : wrap64 ((wrap64 (b.toNat : Int)).tdiv 16) = hiOf b := by
  have h := b.toNat_lt
  rw [IntWalk.wrap64_in (b.toNat : Int) (by omega), Int.tdiv_eq_ediv_of_nonneg (by omega), IntWalk.wrap64_in _ (by omega)]; unfold hiOf; omega
theorem loOf_mod (b : UInt8) : (wrap64 (b.toNat : Int)).tmod 16 = loOf b := by
  have h := b.toNat_lt
  rw [IntWalk.wrap64_in (b.toNat : Int) (by omega), Int.tmod_eq_emod_of_nonneg (by omega)]; unfold loOf; omega

set_option maxHeartbeats 800000 in
theorem refOf_any (s : ByteArray) (w : World) (hs : s.size = 16) :
    Calls Try.prog 8 #[.string s] w fun e w' => ∃ v', e = .returned v' ∧ w'.ownsRow w.heap.size 3 1 v' 35 (ints (digs s.data.toList)) ∧ Below w.heap.size w w' := by
  go_enter Try.func8, Try.ntmps8
  go_wp2
  go_loopw [3, 4, 5] (fun v sum i wr => ∃ k : Nat, k ≤ 16 ∧ i = .int .i64 k ∧ sum = .int .i64 (nibSum s.data.toList k) ∧ wr.ownsRow w.heap.size 3 1 v (2 * k) (ints (nibs s.data.toList k)) ∧ Below w.heap.size w wr) (fun _ _ i _ => 16 - (intOf i).toNat)
  case atStart => exact ⟨0, Nat.zero_le _, rfl, rfl, World.ownsRow_nil _ _ _ _, Below.refl _ _⟩
  case round =>
    obtain ⟨k, hk, rfl, rfl, hown, hnx⟩ := hrel
    have hsz := hnx.size
    by_cases hlt : k < 16
    · obtain ⟨b1, b2⟩ := hiOf_lt s[k]
      obtain ⟨b3, b4⟩ := loOf_lt s[k]
      obtain ⟨b5, b6⟩ := nibSum_bd s.data.toList k
      have Hn := Lib.hid (nibs_succ s.data.toList k (by simpa using (show k < s.size by omega)))
      have Hs : Hid (nibSum s.data.toList (k + 1) = nibSum s.data.toList k + (30 - hiOf s[k] - loOf s[k])) := by
        have h := nibSum_succ s.data.toList k (by simpa using (show k < s.size by omega))
        have e : s.data.toList[k]'(by simpa using (show k < s.size by omega)) = s[k] := rfl
        rw [e] at h
        exact h.trans (by omega)
      have e1 := hiOf_div s[k]
      have e2 := loOf_mod s[k]
      go_wp2_with fail
      go_quiet (fail)
      simp only [e1]
      clear e1 e2
      replace hown : (wr.drewN nq).ownsRow w.heap.size 3 1 u3 (2 * k) (ints (nibs s.data.toList k)) := hown
      replace hnx : Below w.heap.size w (wr.drewN nq) := hnx.trans ⟨rfl, rfl, rfl, Nat.le_refl _, fun _ _ => rfl⟩
      replace hsz := hnx.size
      generalize wr.drewN nq = wd at hown hnx hsz ⊢
      go_wp2_with (at_builtin; refine Hid.out ?_)
      unfold Hid
      refine wpList_appL rfl rfl Try.underlying24 Try.infoInt rfl 2 hown rfl rfl rfl ?_ ?_ ?_ hsz ?_
      · simp [Value.oneCell']
      · omega
      · unfold maxLen; omega
      intro v1 w1 ho1 hg1
      have hx1 := below_grown hnx hown (Nat.le_refl _) hsz hg1
      clear hown hg1 hnx hsz
      go_wp2
      go_roundw
      case rel => exact ⟨k + 1, by omega, by go_num, by rw [Hs.out], by rw [show 2 * (k + 1) = 2 * k + 2 from by omega, Hn.out, ints_snoc, ints_snoc, List.append_assoc]; exact ho1, hx1⟩
      case measure => simp [intOf]; omega
    · obtain rfl : k = 16 := by omega
      obtain ⟨b5, b6⟩ := nibSum_bd s.data.toList 16
      have hchk := Lib.hid (ints_append (nibs s.data.toList 16) (chk (nibSum s.data.toList 16)))
      go_wp2_with (at_builtin; refine Hid.out ?_)
      unfold Hid
      refine wpList_appL rfl rfl Try.underlying24 Try.infoInt rfl 3 hown rfl rfl rfl ?_ ?_ ?_ hsz ?_
      · simp [Value.oneCell']
      · omega
      · unfold maxLen; omega
      intro v1 w1 ho1 hg1
      have hx1 := below_grown hnx hown (Nat.le_refl _) hsz hg1
      clear hown hg1 hnx hsz
      go_wp2
      go_ret
      refine ⟨_, rfl, ?_, hx1⟩
      unfold digs
      rw [hchk.out]
      exact ho1

end Go.Proofs.Ytnccifakpimndaa
