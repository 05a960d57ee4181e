/- digits.Of: of sixteen bytes the thirty-five digits, in a list of the call's own; of another text none. Conditions: none. -/
import Derived.Test.YtnccifakpimndaaRows
import Derived.Test.YtnccifakpimndaaLeft
import Derived.BigQuiet
import Derived.Deep.QuietTactic
namespace Go.Proofs.Ytnccifakpimndaa
open Go.RowKit

/-- A byte's two digits. -/
def hiOf (b : UInt8) : Int := (b.toNat / 16 : Nat)
def loOf (b : UInt8) : Int := (b.toNat % 16 : Nat)
/-- The digits of the first k bytes, and what they are below fifteen, summed. -/
def nibs (l : List UInt8) (k : Nat) : List Int := (l.take k).flatMap fun b => [hiOf b, loOf b]
def nibSum (l : List UInt8) (k : Nat) : Int := ((l.take k).map fun b => 30 - hiOf b - loOf b).sum

theorem hiOf_wrap (b : UInt8) : wrap64 ((b.toNat : Int) / 16) = hiOf b := by
  have h := b.toNat_lt
  rw [IntWalk.wrap64_in _ (by omega)]; unfold hiOf; omega
theorem loOf_wrap (b : UInt8) : wrap64 (bits BinOp.and IntKind.u8 (b.toNat : Int) 15) = loOf b := by
  have : ∀ c : Fin 256, wrap64 (bits BinOp.and IntKind.u8 ((c.val : Nat) : Int) 15) = ((c.val % 16 : Nat) : Int) := by decide +kernel
  exact this ⟨b.toNat, b.toNat_lt⟩
theorem hiOf_lt (b : UInt8) : 0 ≤ hiOf b ∧ hiOf b ≤ 15 := by have h := b.toNat_lt; unfold hiOf; omega
theorem loOf_lt (b : UInt8) : 0 ≤ loOf b ∧ loOf b ≤ 15 := by have h := b.toNat_lt; unfold loOf; omega
theorem nibs_succ (l : List UInt8) (k : Nat) (h : k < l.length) : nibs l (k + 1) = nibs l k ++ [hiOf l[k]] ++ [loOf l[k]] := by
  unfold nibs; rw [List.take_succ_eq_append_getElem h, List.flatMap_append]; simp
theorem nibSum_succ (l : List UInt8) (k : Nat) (h : k < l.length) : nibSum l (k + 1) = nibSum l k + (15 - hiOf l[k]) + (15 - loOf l[k]) := by
  unfold nibSum; rw [List.take_succ_eq_append_getElem h, List.map_append, List.sum_append]; simp; omega
theorem nibSum_bd (l : List UInt8) (k : Nat) : 0 ≤ nibSum l k ∧ nibSum l k ≤ 30 * k := by
  induction k with
  | zero => simp [nibSum]
  | succ k ih =>
    by_cases h : k < l.length
    · have e : nibSum l (k + 1) = nibSum l k + (30 - hiOf l[k] - loOf l[k]) := by
        unfold nibSum; rw [List.take_succ_eq_append_getElem h, List.map_append, List.sum_append]; simp
      have := hiOf_lt l[k]; have := loOf_lt l[k]
      rw [e]; omega
    · have e : nibSum l (k + 1) = nibSum l k := by unfold nibSum; rw [List.take_of_length_le (by omega), List.take_of_length_le (by omega)]
      rw [e]; omega

theorem index_pair0 (x y : Int) (w : World) : (Instr.index 35 (.agg #[.int .i64 x, .int .i64 y]) (.int .i64 0)).run Try.prog w = .ok (.int .i64 x) w := by kernel_rfl
theorem index_pair1 (x y : Int) (w : World) : (Instr.index 35 (.agg #[.int .i64 x, .int .i64 y]) (.int .i64 1)).run Try.prog w = .ok (.int .i64 y) w := by kernel_rfl

/-- The check's three digits. -/
def chk (S : Int) : List Int := [S / 256, S / 16 % 16, S % 16]
/-- All thirty-five. -/
def digs (l : List UInt8) : List Int := nibs l 16 ++ chk (nibSum l 16)
theorem chk_bits (l : List UInt8) : ints (nibs l 16) ++ [.int .i64 (bits BinOp.and IntKind.i64 (nibSum l 16 / 256) 15)] ++ [.int .i64 (bits BinOp.and IntKind.i64 (nibSum l 16 / 16) 15)] ++ [.int .i64 (bits BinOp.and IntKind.i64 (nibSum l 16) 15)] = ints (digs l) := by
  obtain ⟨h0, h1⟩ := nibSum_bd l 16
  have e : (2 : Int) ^ 63 = 9223372036854775808 := by decide
  rw [i64_and15 _ (by omega) (by omega), i64_and15 _ (by omega) (by omega), i64_and15 _ (by omega) (by omega), show nibSum l 16 / 256 % 16 = nibSum l 16 / 256 from by omega]
  simp [ints, digs, chk]

theorem digs_length (s : ByteArray) (hs : s.size = 16) : (digs s.data.toList).length = 35 := by
  have h : ∀ k, k ≤ 16 → (nibs s.data.toList k).length = 2 * k := by
    intro k
    induction k with
    | zero => intro _; rfl
    | succ k ih => intro hk; rw [nibs_succ s.data.toList k (by simpa using (show k < s.size by omega))]; simp [ih (by omega)]; omega
  unfold digs chk
  simp [h 16 (Nat.le_refl _)]

theorem digs_range (s : ByteArray) : ∀ z ∈ digs s.data.toList, 0 ≤ z ∧ z ≤ 15 := by
  intro z hz
  unfold digs at hz
  rw [List.mem_append] at hz
  rcases hz with h | h
  · unfold nibs at h
    rw [List.mem_flatMap] at h
    obtain ⟨b, _, hb⟩ := h
    simp at hb
    rcases hb with rfl | rfl
    · exact hiOf_lt b
    · exact loOf_lt b
  · obtain ⟨h0, h1⟩ := nibSum_bd s.data.toList 16
    simp [chk] at h
    omega

set_option maxHeartbeats 800000 in
theorem of_yes (s : ByteArray) (w : World) (hs : s.size = 16) :
    Calls Try.prog 7 #[.string s] w fun e w' => ∃ v', e = .returned (.tuple #[v', .int .i64 0]) ∧ w'.ownsRow w.heap.size 3 1 v' 35 (ints (digs s.data.toList)) ∧ Below w.heap.size w w' := by
  go_enter Try.func7, Try.ntmps7
  go_wp2
  go_loopw [4, 5, 15] (fun v sum i wr => ∃ k : Nat, k ≤ 16 ∧ i = .int .i64 k ∧ sum = .int .i64 (nibSum s.data.toList k) ∧ wr.ownsRow w.heap.size 3 1 v (2 * k) (ints (nibs s.data.toList k)) ∧ Below w.heap.size w wr) (fun _ _ i _ => 16 - (intOf i).toNat)
  case atStart => exact ⟨0, Nat.zero_le _, rfl, rfl, World.ownsRow_nil _ _ _ _, Below.refl _ _⟩
  case round =>
    obtain ⟨k, hk, rfl, rfl, hown, hnx⟩ := hrel
    have hsz := hnx.size
    by_cases hlt : k < 16
    · have e1 := hiOf_wrap s[k]
      have e2 := loOf_wrap s[k]
      obtain ⟨b1, b2⟩ := hiOf_lt s[k]
      obtain ⟨b3, b4⟩ := loOf_lt s[k]
      obtain ⟨b5, b6⟩ := nibSum_bd s.data.toList k
      have Hn := Lib.hid (nibs_succ s.data.toList k (by simpa using (show k < s.size by omega)))
      have Hs := Lib.hid (nibSum_succ s.data.toList k (by simpa using (show k < s.size by omega)))
      go_wp2_with fail
      go_quiet (fail)
      clear e1 e2
      replace hown : (wr.drewN nq).ownsRow w.heap.size 3 1 u4 (2 * k) (ints (nibs s.data.toList k)) := hown
      replace hnx : Below w.heap.size w (wr.drewN nq) := hnx.trans ⟨rfl, rfl, rfl, Nat.le_refl _, fun _ _ => rfl⟩
      replace hsz := hnx.size
      generalize wr.drewN nq = wd at hown hnx hsz ⊢
      have hi0 := index_pair0
      have hi1 := index_pair1
      go_wp2
      refine wp_loop_rounds 3 ?_
      rw [rounds_succ]
      go_wp2_with (at_builtin; refine Hid.out ?_)
      unfold Hid
      refine wpList_app1 rfl rfl Try.underlying24 Try.infoInt rfl hown rfl rfl rfl ?_ ?_ hsz ?_
      · omega
      · unfold maxLen; omega
      intro v1 w1 ho1 hg1
      have hx1 := below_grown hnx hown (Nat.le_refl _) hsz hg1
      have hsz1 := hx1.size
      clear hown hg1 hnx hsz
      go_wp2
      rw [rounds_succ]
      go_wp2_with (at_builtin; refine Hid.out ?_)
      unfold Hid
      refine wpList_app1 rfl rfl Try.underlying24 Try.infoInt rfl ho1 rfl rfl rfl ?_ ?_ hsz1 ?_
      · omega
      · unfold maxLen; omega
      intro v2 w2 ho2 hg2
      have hx2 := below_grown hx1 ho1 (Nat.le_refl _) hsz1 hg2
      clear ho1 hg2 hx1 hsz1
      go_wp2
      rw [rounds_succ]
      go_wp2
      go_roundw
      case rel => exact ⟨k + 1, by omega, by go_num, by rw [Hs.out]; rfl, by rw [show 2 * (k + 1) = 2 * k + 1 + 1 from by omega, Hn.out, ints_snoc, ints_snoc]; exact ho2, hx2⟩
      case measure => simp [intOf]; omega
    · obtain rfl : k = 16 := by omega
      go_wp2
      have hchk := Lib.hid (chk_bits s.data.toList)
      refine wp_loop_rounds 4 ?_
      rw [rounds_succ]
      go_wp2_with (at_builtin; refine Hid.out ?_)
      unfold Hid
      refine wpList_app1 rfl rfl Try.underlying24 Try.infoInt rfl hown rfl rfl rfl ?_ ?_ hsz ?_
      · omega
      · unfold maxLen; omega
      intro v1 w1 ho1 hg1
      have hx1 := below_grown hnx hown (Nat.le_refl _) hsz hg1
      have hsz1 := hx1.size
      clear hown hg1 hnx hsz
      go_wp2
      rw [rounds_succ]
      go_wp2_with (at_builtin; refine Hid.out ?_)
      unfold Hid
      refine wpList_app1 rfl rfl Try.underlying24 Try.infoInt rfl ho1 rfl rfl rfl ?_ ?_ hsz1 ?_
      · omega
      · unfold maxLen; omega
      intro v2 w2 ho2 hg2
      have hx2 := below_grown hx1 ho1 (Nat.le_refl _) hsz1 hg2
      have hsz2 := hx2.size
      clear ho1 hg2 hx1 hsz1
      go_wp2
      rw [rounds_succ]
      go_wp2_with (at_builtin; refine Hid.out ?_)
      unfold Hid
      refine wpList_app1 rfl rfl Try.underlying24 Try.infoInt rfl ho2 rfl rfl rfl ?_ ?_ hsz2 ?_
      · omega
      · unfold maxLen; omega
      intro v3 w3 ho3 hg3
      have hx3 := below_grown hx2 ho2 (Nat.le_refl _) hsz2 hg3
      have hsz3 := hx3.size
      clear ho2 hg3 hx2 hsz2
      go_wp2
      rw [rounds_succ]
      go_wp2
      go_ret2
      refine ⟨_, rfl, ?_, hx3⟩
      rw [← hchk.out]
      simpa using ho3

theorem of_no (s : ByteArray) (w : World) (hs : ((s.size : Int) != 16) = true) :
    Calls Try.prog 7 #[.string s] w fun e w' => e = .returned (.tuple #[.slice none 0 0, .int .i64 1]) ∧ w = w' := by
  go_enter Try.func7, Try.ntmps7
  go_wp2
  go_ret2
  exact ⟨rfl, rfl⟩

end Go.Proofs.Ytnccifakpimndaa
