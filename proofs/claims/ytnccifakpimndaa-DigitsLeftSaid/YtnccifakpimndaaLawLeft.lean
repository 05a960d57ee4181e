/-
  THE SHELL OF A PROOF OF 'Rows.DigitsLeftSaid' ('plumbob/plumboblaw05.DigitsLeft'), WRITTEN BY PROGRAM (proof-skeleton.mjs, third state) off the guide's own print for that function. Not trusted: Lean checks it.
  YOURS IS THE HOLE MARKED 'HOLE' (it bears 'sorry'). ALL ELSE IS THE GUIDE's OWN WAY (howto/template/XProofs.lean; Derived/Test/ChunkProofs.lean for 'Below') at this function's number and types: leave it.
-/
import Derived.Test.YtnccifakpimndaaSpeaks05
import Derived.Test.YtnccifakpimndaaRows
import Derived.WalkKit
import Derived.ProofKit
import Derived.OpenShut
import Derived.ShutString
import Derived.ChangeOld
import Derived.Below
namespace Go.Proofs.Ytnccifakpimndaa.digitsLeft
open Go.ChangeShapes Go.WideShapes Go.ChangeAt Go.RowKit
open Go.ChangeMaps (open_string shut_string)
set_option linter.unusedVariables false

theorem own : ownKnob Try.prog.godebug = none := by kernel_rfl
theorem laidOut : laidOutB Try.prog = true := by kernel_rfl

/-- WHAT THE WALK IS TOLD OF A SLICE OF INTEGERS THAT CAME IN: it is nil; or it leads to a row of 'cap' cells, the numbers 'zs' (the first 'len' are its elements, the rest its spare room), each fitting its kind. -/
def IsRow (k : IntKind) (w : World) (a : Option Addr) (len cap : Nat) (zs : List Int) : Prop :=
  (a = none ∧ len = 0 ∧ cap = 0 ∧ zs = []) ∨
  ∃ x, a = some x ∧ len ≤ cap ∧ cap ≤ maxLen ∧ zs.length = cap ∧ (∀ i, i < zs.length → w.cell? (x.add i) = some (.int k (zs.getD i 0))) ∧ ∀ n ∈ zs, (Lit.int k n).wf = true

theorem row_cells {w : World} {a : Option Addr} {len cap : Nat} {zs : List Int} (h : IsRow .i64 w a len cap zs) : Cells w (.slice a len cap) (ints (zs.take len)) ∧ len ≤ cap ∧ zs.length = cap := by
  rcases h with ⟨rfl, rfl, rfl, rfl⟩ | ⟨x, rfl, hl, hm, hz, hc, _⟩
  · exact ⟨⟨none, 0, rfl, fun h => absurd rfl h⟩, Nat.le_refl _, rfl⟩
  · have hll : (zs.take len).length = len := by rw [List.length_take]; omega
    refine ⟨⟨some x, cap, by rw [ints_length, hll], fun hne => ?_⟩, hl, hz⟩
    have hpos : 0 < len := by
      rcases Nat.eq_zero_or_pos len with h | h
      · subst h; exact absurd rfl hne
      · exact h
    obtain ⟨b, off, rfl, hd⟩ := ints_at hc (by omega)
    refine ⟨b, off, rfl, World.block_lt_of_cell? w _ (hd 0 (by omega)), fun j hj => ?_⟩
    rw [ints_length, hll] at hj
    rw [hd j (by omega), ints_getD _ _ (by omega)]
    simp [List.getD, hj]

/-- The loop that compares. -/
theorem want_in (z : Int) (h1 : 0 ≤ z) (h2 : z < 16) : leftOf z = 15 - z := leftOf_in z h1 (by omega)

/-! ### STEP 1: THE WALK: the Go text returns true, AND WRITES NOTHING THAT WAS THERE: 'Below w.heap.size w w'' (Derived/Below.lean: '.refl', '.alloc', '.drew', '.setCell' at a new block, '.trans'). Open each 'IsRow' by 'rcases' AHEAD of 'go_enter'; part every test ahead of the walk. -/
theorem walk (a0 : Option Addr) (len0 cap0 : Nat) (z0 : List Int) (w : World) (w0 : IsRow .i64 w a0 len0 cap0 z0) :
    Calls Try.prog 5 #[.slice a0 len0 cap0] w fun e w' => e = .returned (.bool true) ∧ Below w.heap.size w w' := by
  obtain ⟨hC, hlc, hzc⟩ := row_cells w0
  clear w0
  have key : ∀ (n : Nat), n ≤ 50 → n ≤ len0 → (n = len0 ∨ (n = 50 ∧ 50 < len0)) → Calls Try.prog 5 #[.slice a0 len0 cap0] w fun e w' => e = .returned (.bool true) ∧ Below w.heap.size w w' := by
    intro n hn50 hnl hor
    have hC1 := hC.take hnl
    rw [ints_take, List.take_take, Nat.min_eq_left hnl] at hC1
    have Hl := Lib.hid (show (z0.take n).length = n by rw [List.length_take]; omega)
    generalize z0.take n = zs at hC1 Hl
    clear hC
    rcases hor with rfl | ⟨rfl, h50⟩
    all_goals
      go_enter Try.func5, Try.ntmps5
      go_wp2_with (go_at_call 6; refine (speaks_any _).mono ?_; rintro e w1 ⟨rfl, hb1⟩; refine Hid.out ?_)
      unfold Hid
      have hC2 := hC1.old hb1
      go_wp2_with fail
      refine (left_any _ zs _ (by rw [Hl.out]; omega) hC2).mono ?_
      rintro e w2 ⟨v', rfl, ho, hb2⟩
      have hB : Below w.heap.size w w2 := hb1.trans (hb2.mono hb1.size)
      have hC3 := hC2.old hb2
      have hO := cells_of_own ho
      obtain ⟨a', cap', hv, hO⟩ := hO.shape (zs.length) (by have := ho.1; rw [Nat.mul_one] at this; exact this)
      rw [Hl.out] at hv hO
      have hc1 := fun k hk => hC3.int_at k hk
      have hc2 := fun k hk => hO.at k hk
      clear ho hb1 hb2 hC1 hC2 hO hC3
      rw [hv]
      go_wp2
      go_loop [4] (fun i => ∃ k : Nat, k ≤ zs.length ∧ i = .int .i64 k) (fun i => zs.length - (intOf i).toNat)
      case atStart => exact ⟨0, Nat.zero_le _, rfl⟩
      case round =>
        obtain ⟨k, hk, rfl⟩ := hrel
        rw [Hl.out] at hk
        by_cases hlt : k < zs.length
        · have hl1 := hlt
          rw [Hl.out] at hl1
          obtain ⟨b1, o1, ha1, _, hcell1⟩ := hc1 k hl1
          obtain ⟨b2, o2, ha2, _, hcell2⟩ := hc2 k hl1
          have hw := lefts_getD zs k hlt
          rw [← Hl.out] at hcell2
          rw [hw] at hcell2
          clear hw hc1 hc2
          subst ha1 ha2
          generalize zs.getD k 0 = z at hcell1 hcell2
          by_cases h0 : 0 ≤ z
          · by_cases h15 : z < 16
            · rw [want_in _ h0 h15] at hcell2
              go_wp2
              go_round
              case rel => exact ⟨k + 1, by omega, by go_num⟩
              case measure => simp [intOf]; omega
            · rw [leftOf_out z (fun h => h15 (by omega))] at hcell2
              go_wp2
              go_round
              case rel => exact ⟨k + 1, by omega, by go_num⟩
              case measure => simp [intOf]; omega
          · rw [leftOf_out z (fun h => h0 h.1)] at hcell2
            go_wp2
            go_round
            case rel => exact ⟨k + 1, by omega, by go_num⟩
            case measure => simp [intOf]; omega
        · have hl1 := hlt
          rw [Hl.out] at hl1
          go_wp2
          go_ret
          exact ⟨rfl, hB⟩
  by_cases h50 : len0 ≤ 50
  · exact key len0 h50 (Nat.le_refl _) (.inl rfl)
  · exact key 50 (Nat.le_refl _) (by omega) (.inr ⟨rfl, by omega⟩)

/-! ### THE ROW's STEP: WRITTEN OUT: LEAVE IT -/
set_option maxRecDepth 100000 in
theorem lifted (os : Os) (started : os.Started) (H : Type) (enc : TypeId × Value → H) :
    ReturnsInHanded {} Try.checked os 5 .any (Rows.digitsLeftSpec.pre6 enc Try.prog Try.f5 Rows.digitsLeftRow.domain false) (Rows.digitsLeftSpec.post enc Try.prog Try.f5 false true false false) := by
  refine returnsInHanded_of_change (C := Try.checked) own started (by kernel_rfl) Try.func5
    (ChangeSpec.witness6 (enc := enc) (C := Try.checked) false ⟨#[], #[.slice none 0 0], []⟩ 8 (by kernel_rfl) (by kernel_rfl) (by kernel_rfl) (by kernel_rfl)) ?_
  intro W base args ds gs before hval0 hW hcnd _
  have hval : ∀ (j : Nat) t v, Try.f5.params[j]? = some t → args[j]? = some v → Value.okWide Try.prog W .any base t v := hval0
  have hW' := hW
  obtain ⟨p, q, hA0, hV, rfl, hfz, hnd⟩ := hW
  have hA : DataW.TrodAll enc Try.prog W 0 (fun _ => true) true Try.f5.params.toList args.toList ds p := hA0
  rw [Try.params5] at hA hval
  obtain ⟨v0, vs0, d0, ds0, p0, q0, hargs, rfl, rfl, h0, r0⟩ := trodAll_cons hA
  obtain ⟨rfl, rfl, rfl⟩ := trodAll_nil r0
  obtain rfl : args = #[v0] := by cases args; simp_all
  obtain ⟨rfl, rfl⟩ := trodVars_none hV
  obtain ⟨a0, len0, cap0, rfl⟩ := okWide_slice Try.underlying24 (hval 0 24 v0 rfl rfl)
  have k0 := h0
  have lt0 : ∀ x ∈ p0, x.block < W.heap.size := by obtain ⟨m, hm⟩ := k0; exact DataW.trod_lt m _ _ _ hm
  obtain ⟨z0, w0⟩ : ∃ zs, IsRow .i64 W a0 len0 cap0 zs := by
    obtain ⟨fuel, hf⟩ := h0
    rcases open_ints Try.underlying24 Try.underlying3 (by kernel_rfl) hf with ⟨hcs, _⟩ | ⟨x, l, c, zs, hcs, _, hl, hm, hz, _, hcell, hwz⟩
    · simp [Value.cells] at hcs
      obtain ⟨rfl, rfl, rfl⟩ := hcs
      exact ⟨[], .inl ⟨rfl, rfl, rfl, rfl⟩⟩
    · simp [Value.cells] at hcs
      obtain ⟨rfl, rfl, rfl⟩ := hcs
      exact ⟨zs, .inr ⟨_, rfl, hl, hm, by simpa using hz, hcell, hwz⟩⟩
  clear hA0 hval0
  refine (walk a0 len0 cap0 z0 W w0).mono fun e W' ⟨he, bel⟩ => ?_
  subst he
  exact ⟨_, rfl, _, _, _, [], _, [], hW', trodAll_mk1 (shut_bool Try.underlying4 _), (trodAll_cons_mk (Below.trod laidOut (by kernel_rfl) (of_decide_eq_true (by kernel_rfl)) k0 bel lt0) trodAll_mk0), rfl, bel.frame _, fun h => by cases h⟩

theorem over : Rows.digitsLeftRow.holds Try.pinned (OpenSpec.ofChange Rows.digitsLeftSpec) :=
  OpenClaim.holds_of_wide 5 Try.f5 rfl rfl rfl rfl rfl rfl rfl ⟨rfl, rfl, rfl, rfl, rfl⟩ rfl rfl rfl rfl rfl (by kernel_rfl) Try.func5 (by kernel_rfl)
    (of_decide_eq_true (by kernel_rfl)) (by unfold Func.isWrapper; first | (rw [if_pos (by decide +kernel)]; kernel_rfl) | (rw [if_neg (by decide +kernel)]; exact ⟨rfl, rfl⟩))
    (fun os started H enc _ => lifted os started H enc)

/-- ████ THE STATEMENT ████ -/
theorem proved : Rows.DigitsLeftSaid := over
#print axioms proved
end Go.Proofs.Ytnccifakpimndaa.digitsLeft
