/- plumboblaw02.OctetWrites returns true at every input whose reading is of bulk 1048576 at most, and leaves it as it was. Conditions: that one. -/
import Derived.Test.YtljnfppmnikngaaWritesShort
import Derived.Test.YtljnfppmnikngaaWritesLong
import Derived.Test.YtljnfppmnikngaaOpen
import Derived.Test.YtljnfppmnikngaaRows
import Derived.WalkKit
import Derived.ProofKit
import Derived.OpenShut
import Derived.ShutString
import Derived.ChangeOld
import Derived.Below
import Derived.JoinedCond
namespace Go.Proofs.Ytljnfppmnikngaa.octetWrites
open Go.ChangeShapes Go.WideShapes Go.ChangeAt Go.RowKit
set_option linter.unusedVariables false

theorem own : ownKnob Try.prog.godebug = none := by kernel_rfl
theorem laidOut : laidOutB Try.prog = true := by kernel_rfl

theorem walk (a : Option Addr) (len cap : Nat) (ps : List PartV) (w : World) (hP : PartsAt w (.slice a len cap) ps) (hl : ps.length = len) (hB : ∀ p ∈ ps, p.ok ∧ p.text.size ≤ 1048576) (hcap : len ≤ cap) :
    Calls Try.prog 4 #[.slice a len cap] w fun e w' => e = .returned (.bool true) ∧ Below w.heap.size w w' := by
  by_cases h : len ≤ 12
  · exact walk_short a len cap ps w hP hl hB h hcap
  · exact walk_long a len cap ps w hP hl hB h hcap

theorem part_le {H : Type} {d : DataW H} {l : List (DataW H)} (h : d ∈ l) : Rows.uptoBulk d ≤ Rows.uptoBulkAll l := by
  induction l with
  | nil => cases h
  | cons x r ih =>
    simp only [Rows.uptoBulkAll]
    cases List.mem_cons.1 h with
    | inl e => subst e; omega
    | inr e => have := ih e; omega

theorem text_le {H : Type} (p : PartV) : p.text.size ≤ Rows.uptoBulk (p.dat : DataW H) := by
  simp only [PartV.dat, Rows.uptoBulk, Rows.uptoBulkAll]
  have : p.text.data.toList.length = p.text.size := by simp
  omega

/-! ### The row's step -/
set_option maxRecDepth 100000 in
theorem lifted (os : Os) (started : os.Started) (H : Type) (enc : TypeId × Value → H) (F : Stop.Interp) :
    ReturnsInHanded {} Try.checked os 4 .any ((Rows.OpenSpec.upto Rows.octetWritesSpec).pre6 enc Try.prog Try.f4 Rows.octetWritesUptoRow.domain false) (((Rows.OpenSpec.upto Rows.octetWritesSpec).at F).post enc Try.prog Try.f4 false true false false) := by
  refine returnsInHanded_of_cond (C := Try.checked) (s := Rows.OpenSpec.upto Rows.octetWritesSpec) (k := Rows.uptoSmall) rfl own started (by kernel_rfl) Try.func4
    (OpenSpec.witness (enc := enc) (C := Try.checked) (s := Rows.OpenSpec.upto Rows.octetWritesSpec) (k := Rows.uptoSmall) rfl false ⟨#[], #[.slice none 0 0], []⟩ 8 (by kernel_rfl) (by kernel_rfl) (by kernel_rfl)
      (x := ([.nil], [], [])) (by kernel_rfl) rfl (by kernel_rfl)) ?_
  intro W base args ds gs before hval0 hW _ hk _
  have hval : ∀ (j : Nat) t v, Try.f4.params[j]? = some t → args[j]? = some v → Value.okWide Try.prog W .any base t v := hval0
  have hW' := hW
  obtain ⟨p, q, hA0, hV, rfl, hfz, hnd⟩ := hW
  have hA : DataW.TrodAll enc Try.prog W 0 (fun _ => true) true Try.f4.params.toList args.toList ds p := hA0
  rw [Try.params4] at hA hval
  obtain ⟨v0, vs0, d0, ds0, p0, q0, hargs, rfl, rfl, h0, r0⟩ := trodAll_cons hA
  obtain ⟨rfl, rfl, rfl⟩ := trodAll_nil r0
  obtain rfl : args = #[v0] := by cases args; simp_all
  obtain ⟨rfl, rfl⟩ := trodVars_none hV
  have k0 := h0
  have lt0 := lt_of_trod h0
  obtain ⟨a0, len0, cap0, l0, rfl, lc0, P0, ll0, ok0, hd0⟩ := open_parts Try.underlying34 Try.underlying42 (by kernel_rfl) Try.underlying3 Try.underlying26 Try.underlying9 (by kernel_rfl) (by kernel_rfl) (by kernel_rfl) (by kernel_rfl) (hval 0 34 v0 rfl rfl) h0
  have hB : ∀ p ∈ l0, p.ok ∧ p.text.size ≤ 1048576 := by
    intro p hp
    refine ⟨ok0 p hp, ?_⟩
    have h := of_decide_eq_true hk
    rcases hd0 with rfl | ⟨rest, rfl⟩
    · cases hp
    · simp only [List.append_nil, Rows.uptoBulkAll, Rows.uptoBulk] at h
      have h1 := part_le (List.mem_map_of_mem (f := PartV.dat (H := H)) hp)
      have h2 := text_le (H := H) p
      omega
  clear hA0 hval0 hval
  refine (walk a0 len0 cap0 l0 W P0 ll0 hB lc0).mono fun e W' ⟨he, bel⟩ => ?_
  subst he
  exact ⟨_, rfl, _, _, _, [], _, [], hW', trodAll_mk1 (shut_bool Try.underlying4 _), (trodAll_cons_mk (Below.trod laidOut (by kernel_rfl) (of_decide_eq_true (by kernel_rfl)) k0 bel lt0) trodAll_mk0), rfl, bel.frame _, fun h => by cases h⟩

theorem over : Rows.octetWritesUptoRow.holds Try.pinned (Rows.OpenSpec.upto Rows.octetWritesSpec) :=
  OpenClaim.holds_of_cond 4 Try.f4 rfl rfl rfl rfl rfl rfl rfl ⟨rfl, rfl, rfl, rfl, rfl⟩ rfl rfl rfl rfl rfl (by kernel_rfl) Try.func4 (by kernel_rfl)
    (of_decide_eq_true (by kernel_rfl)) (by unfold Func.isWrapper; first | (rw [if_pos (by decide +kernel)]; kernel_rfl) | (rw [if_neg (by decide +kernel)]; exact ⟨rfl, rfl⟩))
    (fun os started H enc _ F => lifted os started H enc F)

theorem proved : Rows.OctetWritesUptoSaid := over
#print axioms proved
end Go.Proofs.Ytljnfppmnikngaa.octetWrites
