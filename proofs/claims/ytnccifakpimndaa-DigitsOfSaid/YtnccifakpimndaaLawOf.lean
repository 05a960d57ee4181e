/-
  THE SHELL OF A PROOF OF 'Rows.DigitsOfSaid' ('plumbob/plumboblaw05.DigitsOf'), WRITTEN BY PROGRAM (proof-skeleton.mjs) off the guide's own print for that function. Not trusted: Lean checks it.
  YOURS ARE THE HOLES MARKED 'HOLE' (each bears 'sorry'). ALL ELSE IS THE GUIDE's TEMPLATE (howto/template/XProofs.lean) at this function's number and types: leave it.
-/
import Derived.Test.YtnccifakpimndaaSpeaks05
import Derived.Test.YtnccifakpimndaaRefOf
import Derived.Test.YtnccifakpimndaaRows
import Derived.WalkKit
import Derived.ProofKit
import Derived.OpenShut
import Derived.ShutString
namespace Go.Proofs.Ytnccifakpimndaa.digitsOf
open Go.ChangeShapes Go.WideShapes Go.ChangeAt Go.RowKit
open Go.ChangeMaps (open_string shut_string)
set_option linter.unusedVariables false      -- a walk need not use every 'w<i>' (that an integer argument fits its kind)

theorem own : ownKnob Try.prog.godebug = none := by kernel_rfl

/-! ### STEP 1: THE WALK: the Go text returns true. 'Grown w w'': the world has at most new blocks (Derived/RowKit3.lean). Part the cases AHEAD of 'go_enter' where a test parts the walk; take each callee by a contract of your own. -/
set_option maxHeartbeats 800000 in
theorem walk_yes (s : ByteArray) (hs : s.size = 16) (w : World) :
    Calls Try.prog 4 #[.string s] w fun e w' => e = .returned (.bool true) ∧ Below w.heap.size w w' := by
  have hl := digs_length s hs
  have Hl := Lib.hid hl
  have hr := digs_range s
  have Hr := Lib.hid hr
  clear hr hl
  go_enter Try.func4, Try.ntmps4
  go_wp2_with fail
  refine (speaks_any _).mono ?_
  rintro e w1 ⟨rfl, hb1⟩
  go_wp2_with fail
  refine (of_yes s _ hs).mono ?_
  rintro e w2 ⟨v2, rfl, ho2, hb2⟩
  go_wp2_with fail
  refine (refOf_any s _ hs).mono ?_
  rintro e w3 ⟨v3, rfl, ho3, hb3⟩
  go_wp2_with fail
  have hC2 := (cells_of_own ho2).old hb3
  refine (left_any v2 (digs s.data.toList) _ (by rw [Hl.out]; omega) hC2).mono ?_
  rintro e w4 ⟨v4, rfl, ho4, hb4⟩
  have hB : Below w.heap.size w w4 := hb1.trans ((hb2.mono hb1.size).trans ((hb3.mono (Nat.le_trans hb1.size hb2.size)).trans (hb4.mono (Nat.le_trans hb1.size (Nat.le_trans hb2.size hb3.size)))))
  have hC2' := hC2.old hb4
  have hC3 := (cells_of_own ho3).old hb4
  have hC4 := cells_of_own ho4
  have hl4 : (lefts (digs s.data.toList) (digs s.data.toList).length).length = 35 := by have := ho4.1; rw [Hl.out] at this ⊢; exact this
  obtain ⟨a2, cap2, hv2, hC2⟩ := hC2'.shape 35 (by rw [ints_length]; exact Hl.out)
  obtain ⟨a3, cap3, hv3, hC3⟩ := hC3.shape 35 (by rw [ints_length]; exact Hl.out)
  obtain ⟨a4, cap4, hv4, hC4⟩ := hC4.shape 35 hl4
  have c2 := fun k hk => hC2.int_at k hk
  have c3 := fun k hk => hC3.int_at k hk
  have c4 := fun k hk => hC4.at k hk
  clear hb1 hb2 hb3 hb4 ho2 ho3 ho4 hC2 hC3 hC4 hC2'
  rw [hv2, hv3, hv4]
  have Hl4 := Lib.hid hl4
  clear hl4
  go_wp2
  go_loopw [7] (fun i w' => (∃ n, w' = w4.drewN n) ∧ ∃ k : Nat, k ≤ 35 ∧ i = .int .i64 k) (fun i _ => 35 - (intOf i).toNat)
  case atStart => exact ⟨⟨0, rfl⟩, 0, Nat.zero_le _, rfl⟩
  case round =>
    obtain ⟨⟨n, rfl⟩, k, hk, rfl⟩ := hrel
    by_cases hlt : k < 35
    · obtain ⟨b2, o2, ha2, _, d2⟩ := c2 k hlt
      obtain ⟨b3, o3, ha3, _, d3⟩ := c3 k hlt
      obtain ⟨b4, o4, ha4, _, d4⟩ := c4 k hlt
      have hkd : k < (digs s.data.toList).length := by rw [Hl.out]; exact hlt
      rw [lefts_getD _ _ hkd] at d4
      have hr := Hr.out ((digs s.data.toList).getD k 0) (by rw [List.getD_eq_getElem?_getD, List.getElem?_eq_getElem hkd]; exact List.getElem_mem hkd)
      clear hkd c2 c3 c4
      subst ha2 ha3 ha4
      generalize (digs s.data.toList).getD k 0 = z at d2 d3 d4 hr
      obtain ⟨r0, r1⟩ := hr
      rw [leftOf_in z r0 r1] at d4
      go_wp2_with fail
      go_quiet (fail)
      go_wp2
      go_roundw
      case rel => exact ⟨⟨n + nq, rfl⟩, k + 1, by omega, by go_num⟩
      case measure => simp [intOf]; omega
    · go_wp2
      go_ret
      exact ⟨rfl, hB.trans ⟨rfl, rfl, rfl, Nat.le_refl _, fun _ _ => rfl⟩⟩

theorem walk (a0 : ByteArray) (w0 : a0.size ≤ maxLen) (w : World) :
    Calls Try.prog 4 #[.string a0] w fun e w' => e = .returned (.bool true) ∧ Below w.heap.size w w' := by
  by_cases hs : a0.size = 16
  · exact walk_yes a0 hs w
  · have hs' : ((a0.size : Int) != 16) = true := by rw [bne_iff_ne]; omega
    clear w0 hs
    go_enter Try.func4, Try.ntmps4
    go_wp2_with fail
    refine (speaks_any _).mono ?_
    rintro e w1 ⟨rfl, hb1⟩
    go_wp2_with fail
    refine (of_no a0 _ hs').mono ?_
    rintro e w2 ⟨rfl, rfl⟩
    go_wp2
    go_ret
    exact ⟨rfl, hb1⟩

/-! ### THE ROW's STEP: WRITTEN OUT: LEAVE IT -/
set_option maxRecDepth 100000 in
theorem lifted (os : Os) (started : os.Started) (H : Type) (enc : TypeId × Value → H) :
    ReturnsInHanded {} Try.checked os 4 .any (Rows.digitsOfSpec.pre6 enc Try.prog Try.f4 Rows.digitsOfRow.domain false) (Rows.digitsOfSpec.post enc Try.prog Try.f4 false true false false) := by
  refine returnsInHanded_of_change (C := Try.checked) own started (by kernel_rfl) Try.func4
    (ChangeSpec.witness6 (enc := enc) (C := Try.checked) false ⟨#[], #[.string ByteArray.empty], []⟩ 8 (by kernel_rfl) (by kernel_rfl) (by kernel_rfl) (by kernel_rfl)) ?_
  intro W base args ds gs before hval0 hW hcnd _
  have hval : ∀ (j : Nat) t v, Try.f4.params[j]? = some t → args[j]? = some v → Value.okWide Try.prog W .any base t v := hval0
  have hW' := hW
  obtain ⟨p, q, hA0, hV, rfl, hfz, hnd⟩ := hW
  have hA : DataW.TrodAll enc Try.prog W 0 (fun _ => true) true Try.f4.params.toList args.toList ds p := hA0
  rw [Try.params4] at hA hval
  obtain ⟨v0, vs0, d0, ds0, p0, q0, hargs, rfl, rfl, h0, r0⟩ := trodAll_cons hA
  obtain ⟨rfl, rfl, rfl⟩ := trodAll_nil r0
  obtain rfl : args = #[v0] := by cases args; simp_all
  obtain ⟨rfl, rfl⟩ := trodVars_none hV
  obtain ⟨a0, rfl, rfl, rfl, w0⟩ := open_string Try.underlying9 (hval 0 9 v0 rfl rfl) h0
  clear hA0 hval0
  simp only [List.append_nil] at hW'
  refine (walk a0 w0 W).mono fun e W' ⟨he, hg⟩ => ?_
  subst he
  exact ⟨_, rfl, _, _, _, [], [], [], hW', trodAll_mk1 (shut_bool Try.underlying4 _), trodAll_cons_mk (shut_string Try.underlying9 w0) trodAll_mk0, rfl, hg.frame _, fun h => by cases h⟩

theorem over : Rows.digitsOfRow.holds Try.pinned (OpenSpec.ofChange Rows.digitsOfSpec) :=
  OpenClaim.holds_of_wide 4 Try.f4 rfl rfl rfl rfl rfl rfl rfl ⟨rfl, rfl, rfl, rfl, rfl⟩ rfl rfl rfl rfl rfl (by kernel_rfl) Try.func4 (by kernel_rfl)
    (of_decide_eq_true (by kernel_rfl)) (by unfold Func.isWrapper; first | (rw [if_pos (by decide +kernel)]; kernel_rfl) | (rw [if_neg (by decide +kernel)]; exact ⟨rfl, rfl⟩))
    (fun os started H enc _ => lifted os started H enc)

/-- ████ THE STATEMENT ████ -/
theorem proved : Rows.DigitsOfSaid :=
  over
#print axioms proved
end Go.Proofs.Ytnccifakpimndaa.digitsOf
