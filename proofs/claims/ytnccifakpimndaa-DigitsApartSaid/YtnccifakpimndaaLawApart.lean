/- plumboblaw05.DigitsApart returns true at every input and leaves it as it was. Conditions: none. -/
import Derived.Test.YtnccifakpimndaaSpeaks05
import Derived.Test.YtnccifakpimndaaOpen
import Derived.Test.YtnccifakpimndaaRows
import Derived.Stop.BytesEq
import Derived.WalkKit
import Derived.ProofKit
import Derived.OpenShut
import Derived.ShutString
import Derived.ChangeOld
import Derived.Below
namespace Go.Proofs.Ytnccifakpimndaa.digitsApart
open Go.ChangeShapes Go.WideShapes Go.ChangeAt Go.RowKit
open Go.ChangeMaps (open_string shut_string)
set_option linter.unusedVariables false

theorem own : ownKnob Try.prog.godebug = none := by kernel_rfl
theorem laidOut : laidOutB Try.prog = true := by kernel_rfl

/-- Is one of the first k of x below y's? -/
def lessTo (x y : List Int) : Nat → Bool
  | 0 => false
  | k + 1 => lessTo x y k || decide (x.getD k 0 < y.getD k 0)

theorem lessTo_false (x y : List Int) (k : Nat) (h : lessTo x y k = false) : ∀ j, j < k → y.getD j 0 ≤ x.getD j 0 := by
  induction k with
  | zero => intro j hj; omega
  | succ k ih =>
    intro j hj
    simp only [lessTo, Bool.or_eq_false_iff, decide_eq_false_iff_not] at h
    by_cases e : j = k
    · subst e; omega
    · exact ih h.1 j (by omega)
theorem lessTo_irrefl (x : List Int) (k : Nat) : lessTo x x k = false := by
  induction k with
  | zero => rfl
  | succ k ih => simp [lessTo, ih]

theorem nibs_getD (l : List UInt8) (n : Nat) (hn : n ≤ l.length) : ∀ j, j < n → (nibs l n).getD (2 * j) 0 = hiOf (l.getD j 0) ∧ (nibs l n).getD (2 * j + 1) 0 = loOf (l.getD j 0) := by
  have hlen : ∀ k, k ≤ l.length → (nibs l k).length = 2 * k := by
    intro k
    induction k with
    | zero => intro _; rfl
    | succ k ih => intro hk; rw [nibs_succ l k hk]; simp [ih (by omega)]; omega
  induction n with
  | zero => intro j hj; omega
  | succ n ih =>
    intro j hj
    rw [nibs_succ l n hn]
    have h1 := hlen n (by omega)
    by_cases e : j = n
    · subst e
      simp [List.getD, h1, List.getElem?_eq_getElem hn]
    · have h2 := ih (by omega) j (by omega)
      have g1 : 2 * j < 2 * n := by omega
      have g2 : 2 * j + 1 < 2 * n := by omega
      simp only [List.getD, List.getElem?_append, List.length_append, h1, List.length_cons, List.length_nil] at h2 ⊢
      rw [if_pos (by omega), if_pos g1, if_pos (by omega), if_pos g2]
      exact h2

/-- If no digit of a's is below b's, then they are the same. -/
theorem same_of_le (a b : List UInt8) (ha : a.length = 16) (hb : b.length = 16) (h : ∀ j, j < 35 → (digs a).getD j 0 ≤ (digs b).getD j 0) : a = b := by
  have la : (nibs a 16).length = 32 := by
    have := digs_length ⟨a.toArray⟩ (bsize _ _ ha)
    simpa [digs, chk] using this
  have lb : (nibs b 16).length = 32 := by
    have := digs_length ⟨b.toArray⟩ (bsize _ _ hb)
    simpa [digs, chk] using this
  have hlow : ∀ j, j < 32 → (nibs a 16).getD j 0 ≤ (nibs b 16).getD j 0 := by
    intro j hj
    have := h j (by omega)
    simp only [digs, List.getD, List.getElem?_append, la, lb, if_pos hj] at this
    exact this
  have h32 := h 32 (by omega)
  have h33 := h 33 (by omega)
  have h34 := h 34 (by omega)
  simp [digs, la, lb, chk] at h32 h33 h34
  obtain ⟨a0, a1⟩ := nibSum_bd a 16
  obtain ⟨b0, b1⟩ := nibSum_bd b 16
  have hsum : nibSum a 16 ≤ nibSum b 16 := by omega
  have hbyte : ∀ j, j < 16 → hiOf (a.getD j 0) ≤ hiOf (b.getD j 0) ∧ loOf (a.getD j 0) ≤ loOf (b.getD j 0) := by
    intro j hj
    obtain ⟨p1, p2⟩ := nibs_getD a 16 (by omega) j hj
    obtain ⟨q1, q2⟩ := nibs_getD b 16 (by omega) j hj
    have e1 := hlow (2 * j) (by omega)
    have e2 := hlow (2 * j + 1) (by omega)
    rw [p1, q1] at e1
    rw [p2, q2] at e2
    exact ⟨e1, e2⟩
  have key : ∀ k, k ≤ 16 → nibSum b k ≤ nibSum a k ∧ (nibSum a k ≤ nibSum b k → a.take k = b.take k) := by
    intro k
    induction k with
    | zero => intro _; exact ⟨Int.le_refl _, fun _ => rfl⟩
    | succ k ih =>
      intro hk
      obtain ⟨i1, i2⟩ := ih (by omega)
      obtain ⟨c1, c2⟩ := hbyte k (by omega)
      have ga : a.getD k 0 = a[k]'(by omega) := by simp [List.getD, List.getElem?_eq_getElem (show k < a.length by omega)]
      have gb : b.getD k 0 = b[k]'(by omega) := by simp [List.getD, List.getElem?_eq_getElem (show k < b.length by omega)]
      rw [ga, gb] at c1 c2
      rw [nibSum_succ a k (by omega), nibSum_succ b k (by omega)]
      refine ⟨by omega, fun hle => ?_⟩
      have e1 : hiOf (a[k]'(by omega)) = hiOf (b[k]'(by omega)) := by omega
      have e2 : loOf (a[k]'(by omega)) = loOf (b[k]'(by omega)) := by omega
      have e3 : a[k]'(by omega) = b[k]'(by omega) := by
        apply UInt8.toNat_inj.1
        unfold hiOf at e1; unfold loOf at e2; omega
      rw [List.take_succ_eq_append_getElem (by omega), List.take_succ_eq_append_getElem (by omega), i2 (by omega), e3]
  have := (key 16 (Nat.le_refl _)).2 hsum
  rwa [List.take_of_length_le (by omega), List.take_of_length_le (by omega)] at this

theorem apart (a b : List UInt8) (ha : a.length = 16) (hb : b.length = 16) :
    (a = b → lessTo (digs (ByteArray.mk a.toArray).data.toList) (digs (ByteArray.mk b.toArray).data.toList) 35 = false ∧ lessTo (digs (ByteArray.mk b.toArray).data.toList) (digs (ByteArray.mk a.toArray).data.toList) 35 = false) ∧
    (a ≠ b → lessTo (digs (ByteArray.mk a.toArray).data.toList) (digs (ByteArray.mk b.toArray).data.toList) 35 = true ∧ lessTo (digs (ByteArray.mk b.toArray).data.toList) (digs (ByteArray.mk a.toArray).data.toList) 35 = true) := by
  refine ⟨fun e => by subst e; exact ⟨lessTo_irrefl _ _, lessTo_irrefl _ _⟩, fun hne => ⟨?_, ?_⟩⟩
  · rw [← Bool.not_eq_false]
    intro hf
    exact hne (same_of_le b a hb ha (lessTo_false _ _ _ hf)).symm
  · rw [← Bool.not_eq_false]
    intro hf
    exact hne (same_of_le a b ha hb (lessTo_false _ _ _ hf))

set_option maxHeartbeats 800000 in
theorem walk (a : List UInt8) (ha : a.length = 16) (b : List UInt8) (hb : b.length = 16) (w : World) :
    Calls Try.prog 3 #[.agg (bytesV a).toArray, .agg (bytesV b).toArray] w fun e w' => e = .returned (.bool true) ∧ Below w.heap.size w w' := by
  obtain ⟨W0, hW0⟩ : ∃ W0, W0 = (w.alloc (.cells (bytesV a).toArray 22)).alloc (.cells (bytesV b).toArray 22) := ⟨_, rfl⟩
  have gA : W0.heap[w.heap.size]? = some (.cells (bytesV a).toArray 22) := by rw [hW0]; exact heap_alloc2_old _ _ _
  have gB : W0.heap[w.heap.size + 1]? = some (.cells (bytesV b).toArray 22) := by rw [hW0]; exact heap_alloc2_new _ _ _
  have hz0 : w.heap.size + 2 = W0.heap.size := by rw [hW0]; simp
  have hw0 : Below w.heap.size w W0 := by rw [hW0]; exact ((Below.refl _ _).alloc (Nat.le_refl _) _).alloc (by simp) _
  have Hz0 := Lib.hid hz0
  clear hz0
  go_enter Try.func3, Try.ntmps3
  go_wp2_with fail
  rw [← hW0]
  refine (speaks_any _).mono ?_
  rintro e w1 ⟨rfl, hb1⟩
  clear hW0
  rw [← Hz0.out] at hb1
  replace gA : w1.heap[w.heap.size]? = some (.cells (bytesV a).toArray 22) := (hb1.block _ (by omega)).trans gA
  replace gB : w1.heap[w.heap.size + 1]? = some (.cells (bytesV b).toArray 22) := (hb1.block _ (by omega)).trans gB
  replace hw0 := hw0.trans (hb1.mono (by omega))
  have hs1 : w.heap.size + 2 ≤ w1.heap.size := by rw [Hz0.out]; exact hb1.size
  clear hb1
  have kA := run_string_block (P := Try.prog) Try.underlying28 Try.underlying5 Try.underlying9 (cap := 16) gA ha
  go_wp2_with fail
  clear kA
  refine (of_yes _ _ (bsize _ _ ha)).mono ?_
  rintro e w2 ⟨v2, rfl, ho2, hb2⟩
  replace gA : w2.heap[w.heap.size]? = some (.cells (bytesV a).toArray 22) := (hb2.block _ (by omega)).trans gA
  replace gB : w2.heap[w.heap.size + 1]? = some (.cells (bytesV b).toArray 22) := (hb2.block _ (by omega)).trans gB
  replace hw0 := hw0.trans (hb2.mono (by omega))
  have hs2 : w.heap.size + 2 ≤ w2.heap.size := Nat.le_trans hs1 hb2.size
  have cA := cells_of_own ho2
  clear hb2 ho2
  have kB := run_string_block (P := Try.prog) Try.underlying28 Try.underlying5 Try.underlying9 (cap := 16) gB hb
  go_wp2_with fail
  clear kB
  refine (of_yes _ _ (bsize _ _ hb)).mono ?_
  rintro e w3 ⟨v3, rfl, ho3, hb3⟩
  replace gA : w3.heap[w.heap.size]? = some (.cells (bytesV a).toArray 22) := (hb3.block _ (by omega)).trans gA
  replace gB : w3.heap[w.heap.size + 1]? = some (.cells (bytesV b).toArray 22) := (hb3.block _ (by omega)).trans gB
  replace hw0 := hw0.trans (hb3.mono (by omega))
  replace cA := cA.old hb3
  have cB := cells_of_own ho3
  clear hb3 ho3
  obtain ⟨a2, cap2, hv2, cA⟩ := cA.shape 35 (by rw [ints_length]; exact digs_length _ (bsize _ _ ha))
  obtain ⟨a3, cap3, hv3, cB⟩ := cB.shape 35 (by rw [ints_length]; exact digs_length _ (bsize _ _ hb))
  have cA := fun k hk => cA.int_at k hk
  have cB := fun k hk => cB.int_at k hk
  rw [hv2, hv3]
  have Hab := Lib.hid (apart a b ha hb)
  generalize digs (ByteArray.mk a.toArray).data.toList = x at cA Hab
  generalize digs (ByteArray.mk b.toArray).data.toList = y at cB Hab
  go_wp2
  go_loopw [9, 10, 11] (fun l m i W => (∃ n, W = w3.drewN n) ∧ ∃ k : Nat, k ≤ 35 ∧ i = .int .i64 k ∧ l = .bool (lessTo x y k) ∧ m = .bool (lessTo y x k)) (fun _ _ i _ => 35 - (intOf i).toNat)
  case atStart => exact ⟨⟨0, rfl⟩, 0, Nat.zero_le _, rfl, rfl, rfl⟩
  case round =>
    obtain ⟨⟨n, rfl⟩, k, hk, rfl, rfl, rfl⟩ := hrel
    by_cases hlt : k < 35
    · obtain ⟨b2, o2, ha2, _, d2⟩ := cA k hlt
      obtain ⟨b3, o3, ha3, _, d3⟩ := cB k hlt
      have s1 := Lib.hid (show lessTo x y (k + 1) = (lessTo x y k || decide (x.getD k 0 < y.getD k 0)) from rfl)
      have s2 := Lib.hid (show lessTo y x (k + 1) = (lessTo y x k || decide (y.getD k 0 < x.getD k 0)) from rfl)
      clear cA cB hv2 hv3 gA gB
      subst ha2 ha3
      generalize x.getD k 0 = p at d2 s1 s2
      generalize y.getD k 0 = q at d3 s1 s2
      generalize lessTo x y k = l at s1 ⊢
      generalize lessTo y x k = m at s2 ⊢
      cases l <;> cases m
      all_goals
        go_wp2_with fail
        go_quiet (fail)
        go_wp2_with fail
        go_quiet (fail)
        go_wp2
        go_roundw
        case rel => exact ⟨⟨_, rfl⟩, k + 1, by omega, by go_num, by rw [s1.out]; simp, by rw [s2.out]; simp⟩
        case measure => simp [intOf]; omega
    · obtain rfl : k = 35 := by omega
      replace gA : (w3.drewN n).heap[w.heap.size]? = some (.cells (bytesV a).toArray 22) := gA
      replace gB : (w3.drewN n).heap[w.heap.size + 1]? = some (.cells (bytesV b).toArray 22) := gB
      replace hw0 : Below w.heap.size w (w3.drewN n) := hw0.trans ⟨rfl, rfl, rfl, Nat.le_refl _, fun _ _ => rfl⟩
      have hq : (Op.equalIn 10000 22 (.agg (bytesV a).toArray) (.agg (bytesV b).toArray)).run Try.prog (w3.drewN n) = .ok (a == b) (w3.drewN n) :=
        run_equalIn_bytes (P := Try.prog) (w := w3.drewN n) 9998 22 5 16 Try.underlying22 Try.underlying5 (fun _ => by kernel_rfl) a b ha hb
      have hinf : (Try.prog.info? 22).map (·.size) = some 16 := by kernel_rfl
      clear cA cB hv2 hv3
      by_cases hab : a = b
      · obtain ⟨h1, h2⟩ := Hab.out.1 hab
        rw [beq_iff_eq.2 hab] at hq
        rw [h1, h2]
        clear h1 h2 hab
        go_wp2_with (first | (refine wpList_load_row rfl 22 _ rfl _ rfl 22 _ _ _ gA Try.underlying22 rfl ?_ ?_; simpa [bytesV, ha] using hinf) | (refine wpList_load_row rfl 22 _ rfl _ rfl 22 _ _ _ gB Try.underlying22 rfl ?_ ?_; simpa [bytesV, hb] using hinf))
        go_ret
        exact ⟨rfl, hw0⟩
      · obtain ⟨h1, h2⟩ := Hab.out.2 hab
        rw [beq_eq_false_iff_ne.2 hab] at hq
        rw [h1, h2]
        clear h1 h2 hab
        go_wp2_with (first | (refine wpList_load_row rfl 22 _ rfl _ rfl 22 _ _ _ gA Try.underlying22 rfl ?_ ?_; simpa [bytesV, ha] using hinf) | (refine wpList_load_row rfl 22 _ rfl _ rfl 22 _ _ _ gB Try.underlying22 rfl ?_ ?_; simpa [bytesV, hb] using hinf))
        go_ret
        exact ⟨rfl, hw0⟩

/-! ### The row's step -/
set_option maxRecDepth 100000 in
theorem lifted (os : Os) (started : os.Started) (H : Type) (enc : TypeId × Value → H) :
    ReturnsInHanded {} Try.checked os 3 .any (Rows.digitsApartSpec.pre6 enc Try.prog Try.f3 Rows.digitsApartRow.domain false) (Rows.digitsApartSpec.post enc Try.prog Try.f3 false true false false) := by
  refine returnsInHanded_of_change (C := Try.checked) own started (by kernel_rfl) Try.func3
    (ChangeSpec.witness6 (enc := enc) (C := Try.checked) false ⟨#[], #[.agg #[.int .u8 0, .int .u8 0, .int .u8 0, .int .u8 0, .int .u8 0, .int .u8 0, .int .u8 0, .int .u8 0, .int .u8 0, .int .u8 0, .int .u8 0, .int .u8 0, .int .u8 0, .int .u8 0, .int .u8 0, .int .u8 0], .agg #[.int .u8 0, .int .u8 0, .int .u8 0, .int .u8 0, .int .u8 0, .int .u8 0, .int .u8 0, .int .u8 0, .int .u8 0, .int .u8 0, .int .u8 0, .int .u8 0, .int .u8 0, .int .u8 0, .int .u8 0, .int .u8 0]], []⟩ 8 (by kernel_rfl) (by kernel_rfl) (by kernel_rfl) (by kernel_rfl)) ?_
  intro W base args ds gs before hval0 hW hcnd _
  have hval : ∀ (j : Nat) t v, Try.f3.params[j]? = some t → args[j]? = some v → Value.okWide Try.prog W .any base t v := hval0
  have hW' := hW
  obtain ⟨p, q, hA0, hV, rfl, hfz, hnd⟩ := hW
  have hA : DataW.TrodAll enc Try.prog W 0 (fun _ => true) true Try.f3.params.toList args.toList ds p := hA0
  rw [Try.params3] at hA hval
  obtain ⟨v0, vs0, d0, ds0, p0, q0, hargs, rfl, rfl, h0, r0⟩ := trodAll_cons hA
  obtain ⟨v1, vs1, d1, ds1, p1, q1, rfl, rfl, rfl, h1, r1⟩ := trodAll_cons r0
  obtain ⟨rfl, rfl, rfl⟩ := trodAll_nil r1
  obtain rfl : args = #[v0, v1] := by cases args; simp_all
  obtain ⟨rfl, rfl⟩ := trodVars_none hV
  have k0 := h0
  have lt0 := lt_of_trod h0
  obtain ⟨a0, rfl, w0⟩ := open_bytes Try.underlying22 Try.underlying5 (by kernel_rfl) (by kernel_rfl) (hval 0 22 v0 rfl rfl) h0
  have k1 := h1
  have lt1 := lt_of_trod h1
  obtain ⟨a1, rfl, w1⟩ := open_bytes Try.underlying22 Try.underlying5 (by kernel_rfl) (by kernel_rfl) (hval 1 22 v1 rfl rfl) h1
  clear hA0 hval0 hval
  refine (walk a0 w0 a1 w1 W).mono fun e W' ⟨he, bel⟩ => ?_
  subst he
  exact ⟨_, rfl, _, _, _, [], _, [], hW', trodAll_mk1 (shut_bool Try.underlying4 _), (trodAll_cons_mk (Below.trod laidOut (by kernel_rfl) (of_decide_eq_true (by kernel_rfl)) k0 bel lt0) (trodAll_cons_mk (Below.trod laidOut (by kernel_rfl) (of_decide_eq_true (by kernel_rfl)) k1 bel lt1) trodAll_mk0)), rfl, bel.frame _, fun h => by cases h⟩

theorem over : Rows.digitsApartRow.holds Try.pinned (OpenSpec.ofChange Rows.digitsApartSpec) :=
  OpenClaim.holds_of_wide 3 Try.f3 rfl rfl rfl rfl rfl rfl rfl ⟨rfl, rfl, rfl, rfl, rfl⟩ rfl rfl rfl rfl rfl (by kernel_rfl) Try.func3 (by kernel_rfl)
    (of_decide_eq_true (by kernel_rfl)) (by unfold Func.isWrapper; first | (rw [if_pos (by decide +kernel)]; kernel_rfl) | (rw [if_neg (by decide +kernel)]; exact ⟨rfl, rfl⟩))
    (fun os started H enc _ => lifted os started H enc)

theorem proved : Rows.DigitsApartSaid := over
#print axioms proved
end Go.Proofs.Ytnccifakpimndaa.digitsApart
