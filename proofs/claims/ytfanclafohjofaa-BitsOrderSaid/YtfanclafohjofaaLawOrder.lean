/- plumboblaw12.BitsOrder returns true at every input and leaves it as it was. Conditions: none. -/
import Derived.Test.YtfanclafohjofaaSpeaks12
import Derived.Test.YtfanclafohjofaaOpen
import Derived.Test.YtfanclafohjofaaRows
import Derived.WalkLawsBesides
import Derived.WalkKit
import Derived.ProofKit
import Derived.OpenShut
import Derived.ShutString
import Derived.ChangeOld
import Derived.Below
namespace Go.Proofs.Ytfanclafohjofaa.bitsOrder
open Go.ChangeShapes Go.WideShapes Go.ChangeAt Go.RowKit
open Go.ChangeMaps (open_string shut_string)
set_option linter.unusedVariables false

theorem own : ownKnob Try.prog.godebug = none := by kernel_rfl
theorem laidOut : laidOutB Try.prog = true := by kernel_rfl

theorem less_irrefl (x : List UInt8) : Op.bytesLess x x = false := by
  induction x with
  | nil => rfl
  | cons a x ih => simp [Op.bytesLess, ih]

theorem less_asymm (x y : List UInt8) : Op.bytesLess x y = true → Op.bytesLess y x = false := by
  induction x generalizing y with
  | nil => intro h; cases y <;> simp_all [Op.bytesLess]
  | cons a x ih =>
    cases y with
    | nil => simp [Op.bytesLess]
    | cons b y =>
      simp only [Op.bytesLess, Bool.or_eq_true, decide_eq_true_eq, Bool.and_eq_true, beq_iff_eq, Bool.or_eq_false_iff, decide_eq_false_iff_not, Bool.and_eq_false_iff, UInt8.lt_iff_toNat_lt, ← UInt8.toNat_inj, beq_eq_false_iff_ne, ne_eq]
      intro h
      rcases h with h | ⟨h1, h2⟩
      · exact ⟨by omega, .inl (by omega)⟩
      · exact ⟨by omega, .inr (ih y h2)⟩

theorem band_one (x : UInt8) (k : Nat) (hk : k ≤ 8) : bandTo [x] k = ((x.toNat / 2 ^ (8 - k) : Nat) : Int) := by
  have hx := x.toNat_lt
  induction k with
  | zero => simp [bandTo]; omega
  | succ k ih =>
    have e : [x].getD (k / 8) 0 = x := by rw [show k / 8 = 0 from by omega]; rfl
    rw [bandTo, ih (by omega), bitAt, e, show k % 8 = k from by omega, show 8 - (k + 1) = 7 - k from by omega, show 8 - k = (7 - k) + 1 from by omega, Nat.pow_succ, ← Nat.div_div_eq_div_mul]
    omega

theorem alike_band (a b : List UInt8) (k : Nat) : alikeTo a b k = true → bandTo a k = bandTo b k := by
  induction k with
  | zero => intro _; rfl
  | succ k ih =>
    intro h
    simp only [alikeTo, Bool.and_eq_true, beq_iff_eq] at h
    simp only [bandTo]
    rw [ih h.1, h.2]

theorem bit_head (x : UInt8) (xs : List UInt8) (i : Nat) (hi : i < 8) : bitAt (x :: xs) i = bitAt [x] i := by
  unfold bitAt
  rw [show i / 8 = 0 from by omega]; rfl
theorem bit_tail (x : UInt8) (xs : List UInt8) (i : Nat) (hi : 8 ≤ i) : bitAt (x :: xs) i = bitAt xs (i - 8) := by
  unfold bitAt
  rw [show i / 8 = (i - 8) / 8 + 1 from by omega, show i % 8 = (i - 8) % 8 from by omega]; rfl

theorem head_less (x y : UInt8) (n : Nat) (hn : n < 8) (h : alikeTo [x] [y] n = true) (h0 : bitAt [x] n = 0) (h1 : bitAt [y] n = 1) : x.toNat < y.toNat := by
  have e := alike_band _ _ _ h
  have e2 : bandTo [x] (n + 1) < bandTo [y] (n + 1) := by simp only [bandTo]; omega
  rw [band_one x (n + 1) (by omega), band_one y (n + 1) (by omega)] at e2
  have e3 : x.toNat / 2 ^ (8 - (n + 1)) < y.toNat / 2 ^ (8 - (n + 1)) := by omega
  rcases Nat.lt_or_ge x.toNat y.toNat with h | h
  · exact h
  · have := Nat.div_le_div_right (c := 2 ^ (8 - (n + 1))) h
    omega

theorem head_same (x y : UInt8) (h : alikeTo [x] [y] 8 = true) : x = y := by
  have e := alike_band _ _ _ h
  rw [band_one x 8 (by omega), band_one y 8 (by omega)] at e
  apply UInt8.toNat_inj.1
  simp at e
  omega

theorem less_of_bit (x y : List UInt8) (n : Nat) (hl : x.length = y.length) (hn : n < 8 * x.length) (h : alikeTo x y n = true) (h0 : bitAt x n = 0) (h1 : bitAt y n = 1) : Op.bytesLess x y = true := by
  induction x generalizing y n with
  | nil => simp at hn
  | cons a x ih =>
    cases y with
    | nil => simp at hl
    | cons b y =>
      simp only [Op.bytesLess, Bool.or_eq_true, decide_eq_true_eq, Bool.and_eq_true, beq_iff_eq]
      rw [alikeTo_iff] at h
      by_cases h8 : n < 8
      · left
        rw [bit_head _ _ _ h8] at h0 h1
        rw [UInt8.lt_iff_toNat_lt]
        refine head_less a b n h8 ?_ h0 h1
        rw [alikeTo_iff]
        intro i hi
        have := h i hi
        rwa [bit_head a x _ (by omega), bit_head b y _ (by omega)] at this
      · right
        refine ⟨head_same a b ?_, ih y (n - 8) (by simpa using hl) (by simp at hn; omega) ?_ (by rw [← bit_tail a x n (by omega)]; exact h0) (by rw [← bit_tail b y n (by omega)]; exact h1)⟩
        · rw [alikeTo_iff]
          intro i hi
          have := h i (by omega)
          rwa [bit_head a x _ hi, bit_head b y _ hi] at this
        · rw [alikeTo_iff]
          intro i hi
          have := h (i + 8) (by omega)
          rwa [bit_tail _ _ _ (by omega), bit_tail _ _ _ (by omega), Nat.add_sub_cancel] at this

theorem same_of_alike (x y : List UInt8) (hl : x.length = y.length) (h : alikeTo x y (8 * x.length) = true) : x = y := by
  induction x generalizing y with
  | nil => cases y <;> simp_all
  | cons a x ih =>
    cases y with
    | nil => simp at hl
    | cons b y =>
      rw [alikeTo_iff] at h
      simp only [List.length_cons] at h
      have e1 : a = b := head_same a b (by
        rw [alikeTo_iff]
        intro i hi
        have := h i (by omega)
        rwa [bit_head a x _ hi, bit_head b y _ hi] at this)
      have e2 : x = y := ih y (by simpa using hl) (by
        rw [alikeTo_iff]
        intro i hi
        have := h (i + 8) (by omega)
        rwa [bit_tail _ _ _ (by omega), bit_tail _ _ _ (by omega), Nat.add_sub_cancel] at this)
      rw [e1, e2]

/-- What the law asks of two keys in order and of how many bits they share. -/
structure Facts (x y : List UInt8) (n d : Nat) : Prop where
  eq : (n = 128) ↔ x = y
  bits : n < 128 → bitAt x n = 0 ∧ bitAt y n = 1
  le : bandTo x d ≤ bandTo y d
  same : (bandTo x d = bandTo y d) ↔ d ≤ n
  less : n < 128 → alikeTo x y (n + 1) = false

theorem bit_cases (l : List UInt8) (n : Nat) : bitAt l n = 0 ∨ bitAt l n = 1 := by have := bitAt_bd l n; omega

theorem band_past (x y : List UInt8) (n : Nat) (h : alikeTo x y n = true) (h0 : bitAt x n = 0) (h1 : bitAt y n = 1) : ∀ k, n < k → bandTo x k < bandTo y k := by
  intro k
  induction k with
  | zero => omega
  | succ k ih =>
    intro hk
    have := bitAt_bd x k
    have := bitAt_bd y k
    simp only [bandTo]
    by_cases e : k = n
    · subst e; rw [alike_band _ _ _ h]; omega
    · have := ih (by omega); omega

theorem facts (x y : List UInt8) (hx : x.length = 16) (hy : y.length = 16) (n d : Nat) (hle : Op.bytesLess y x = false) (hn : n ≤ 128) (h : alikeTo x y n = true) (hne : n < 128 → bitAt x n ≠ bitAt y n) (hd : d ≤ 16) : Facts x y n d := by
  have hb : n < 128 → bitAt x n = 0 ∧ bitAt y n = 1 := by
    intro hlt
    have h1 := hne hlt
    rcases bit_cases x n with p | p <;> rcases bit_cases y n with q | q
    · omega
    · exact ⟨p, q⟩
    · have hs : alikeTo y x n = true := by
        rw [alikeTo_iff] at h ⊢
        intro i hi; exact (h i hi).symm
      have := less_of_bit y x n (by omega) (by omega) hs q p
      rw [this] at hle; cases hle
    · omega
  refine ⟨⟨fun e => same_of_alike x y (by omega) (by rw [hx, ← show n = 8 * 16 from by omega]; exact h), fun e => ?_⟩, hb, ?_, ⟨fun e => ?_, fun e => ?_⟩, fun hlt => ?_⟩
  · rcases Nat.lt_or_ge n 128 with h1 | h1
    · exact absurd (by rw [e]) (hne h1)
    · omega
  · rcases Nat.lt_or_ge n d with h1 | h1
    · obtain ⟨p, q⟩ := hb (by omega)
      exact Int.le_of_lt (band_past x y n h p q d h1)
    · rw [alike_band x y d (by rw [alikeTo_iff] at h ⊢; intro i hi; exact h i (by omega))]; exact Int.le_refl _
  · rcases Nat.lt_or_ge n d with h1 | h1
    · obtain ⟨p, q⟩ := hb (by omega)
      have := band_past x y n h p q d h1
      omega
    · exact h1
  · exact alike_band x y d (by rw [alikeTo_iff] at h ⊢; intro i hi; exact h i (by omega))
  · simp only [alikeTo, h, Bool.true_and, beq_eq_false_iff_ne]
    exact hne hlt

set_option maxHeartbeats 1600000 in
set_option maxRecDepth 100000 in
theorem walk (a : List UInt8) (ha : a.length = 16) (b : List UInt8) (hb : b.length = 16) (depth : Int) (wd : (Lit.int .u8 depth).wf = true) (w : World) :
    Calls Try.prog 4 #[.agg (bytesV a).toArray, .agg (bytesV b).toArray, .int .u8 depth] w fun e w' => e = .returned (.bool true) ∧ Below w.heap.size w w' := by
  obtain ⟨W0, hW0⟩ : ∃ W0, W0 = (w.alloc (.cells (bytesV a).toArray 22)).alloc (.cells (bytesV b).toArray 22) := ⟨_, rfl⟩
  have gA : W0.heap[w.heap.size]? = some (.cells (bytesV a).toArray 22) := by rw [hW0]; exact heap_alloc2_old _ _ _
  have gB : W0.heap[w.heap.size + 1]? = some (.cells (bytesV b).toArray 22) := by rw [hW0]; exact heap_alloc2_new _ _ _
  have hz0 : w.heap.size + 2 = W0.heap.size := by rw [hW0]; simp
  have hw0 : Below w.heap.size w W0 := by rw [hW0]; exact ((Below.refl _ _).alloc (Nat.le_refl _) _).alloc (by simp) _
  have Hz0 := Lib.hid hz0
  clear hz0
  go_enter Try.func4, Try.ntmps4
  go_wp2_with fail
  rw [← hW0]
  refine (speaks_any _).mono ?_
  rintro e w1 ⟨rfl, hb1⟩
  rw [← Hz0.out] at hb1
  have gA1 : w1.heap[w.heap.size]? = some (.cells (bytesV a).toArray 22) := (hb1.block _ (by omega)).trans gA
  have gB1 : w1.heap[w.heap.size + 1]? = some (.cells (bytesV b).toArray 22) := (hb1.block _ (by omega)).trans gB
  have hw1 := hw0.trans (hb1.mono (by omega))
  have kA := fun n => run_string_block (P := Try.prog) (w := w1.drewN n) Try.underlying24 Try.underlying5 Try.underlying9 (cap := 16) gA1 ha
  have kB := fun n => run_string_block (P := Try.prog) (w := w1.drewN n) Try.underlying24 Try.underlying5 Try.underlying9 (cap := 16) gB1 hb
  clear hb1 gA gA1 gB gB1 hw0 hW0
  obtain ⟨dp, rfl⟩ := Int.eq_ofNat_of_zero_le (bounds_u8 wd).1
  have hdb := (bounds_u8 wd).2
  clear wd
  have hssa := bsize a 16 ha
  have hssb := bsize b 16 hb
  have hlsa : (ByteArray.mk a.toArray).data.toList.length = 16 := by simpa using ha
  have hlsb : (ByteArray.mk b.toArray).data.toList.length = 16 := by simpa using hb
  generalize ByteArray.mk a.toArray = sa at hssa hlsa kA
  generalize ByteArray.mk b.toArray = sb at hssb hlsb kB
  go_wp2_with fail
  go_quiet (fail)
  clear kA kB
  have hw2 : Below w.heap.size w (w1.drewN nq) := hw1.trans ⟨rfl, rfl, rfl, Nat.le_refl _, fun _ _ => rfl⟩
  clear hw1
  generalize w1.drewN nq = w2 at hw2
  obtain ⟨d, hd, hd2⟩ : ∃ d : Nat, d ≤ 16 ∧ (dp : Int) % 17 = d := ⟨dp % 17, by omega, by omega⟩
  by_cases hgt : (!Op.bytesLess sa.toList sb.toList && !(sa.toList == sb.toList)) = true
  · obtain ⟨g1, g2⟩ : Op.bytesLess sa.toList sb.toList = false ∧ (sa.toList == sb.toList) = false := by simpa using hgt
    have hle : Op.bytesLess sa.data.toList sb.data.toList = false := by rw [← ByteArray.toList_eq, ← ByteArray.toList_eq]; exact g1
    clear hgt
    go_wp2_with fail
    refine (common_any sb sa 16 _ hssb hssa (by decide)).mono ?_
    rintro e w' ⟨n, rfl, hn, hal, hne, q, rfl⟩
    have F := facts sb.data.toList sa.data.toList hlsb hlsa n d hle (by omega) hal hne (by omega)
    have hw3 : Below w.heap.size w (w2.drewN q) := hw2.trans ⟨rfl, rfl, rfl, Nat.le_refl _, fun _ _ => rfl⟩
    clear hw2
    generalize w2.drewN q = w3 at hw3
    have hbx : bandI sb.data.toList d = bandTo sb.data.toList d := by unfold bandI; rw [if_pos (by omega)]; rfl
    have hby : bandI sa.data.toList d = bandTo sa.data.toList d := by unfold bandI; rw [if_pos (by omega)]; rfl
    have Hbx := Lib.hid hbx
    have Hby := Lib.hid hby
    have Hal := Lib.hid hal
    have Hne := Lib.hid hne
    clear hbx hby hal hne hle
    by_cases hn128 : n = 128
    · have hxy : sb = sa := Go.WideShapes.bytes_inj (F.eq.1 hn128)
      subst hxy hn128
      clear F
      go_wp2_with fail
      refine (band_any sb d _ (by omega)).mono ?_
      rintro e w' ⟨rfl, rfl⟩
      rw [Hbx.out]
      go_wp2_with fail
      refine (band_any sb d _ (by omega)).mono ?_
      rintro e w' ⟨rfl, rfl⟩
      rw [Hbx.out]
      go_wp2_with fail
      refine (band_any sb d _ (by omega)).mono ?_
      rintro e w' ⟨rfl, rfl⟩
      rw [Hbx.out]
      go_wp2_with fail
      refine (band_any sb d _ (by omega)).mono ?_
      rintro e w' ⟨rfl, rfl⟩
      rw [Hbx.out]
      go_wp2_with fail
      refine (below_any sb sb 128 _ (by omega) (by omega)).mono ?_
      rintro e w' ⟨rfl, rfl⟩
      rw [show depthNat 128 = 128 from by decide, Hal.out]
      go_wp2
      go_ret
      exact ⟨rfl, hw3⟩
    · have hlt : n < 128 := by omega
      obtain ⟨p0, p1⟩ := F.bits hlt
      have hxy : (sb.toList == sa.toList) = false := by
        rw [ByteArray.toList_eq, ByteArray.toList_eq, beq_eq_false_iff_ne]; intro e; exact hn128 (F.eq.2 e)
      have hnn : ((n : Int) == 128) = false := by rw [beq_eq_false_iff_ne]; omega
      have hle2 := F.le
      have hlen := Lib.hid (F.less hlt)
      have hfin := Lib.hid F.same
      have Hp0 := Lib.hid p0
      have Hp1 := Lib.hid p1
      clear hn128 F p0 p1
      go_wp2_with fail
      refine (bit_any sb n _ (by omega)).mono ?_
      rintro e w' ⟨rfl, rfl⟩
      rw [bitI_nat, Hp0.out]
      go_wp2_with fail
      refine (bit_any sa n _ (by omega)).mono ?_
      rintro e w' ⟨rfl, rfl⟩
      rw [bitI_nat, Hp1.out]
      go_wp2_with fail
      refine (band_any sb d _ (by omega)).mono ?_
      rintro e w' ⟨rfl, rfl⟩
      rw [Hbx.out]
      go_wp2_with fail
      refine (band_any sa d _ (by omega)).mono ?_
      rintro e w' ⟨rfl, rfl⟩
      rw [Hby.out]
      go_wp2_with fail
      refine (band_any sb d _ (by omega)).mono ?_
      rintro e w' ⟨rfl, rfl⟩
      rw [Hbx.out]
      go_wp2_with fail
      refine (band_any sa d _ (by omega)).mono ?_
      rintro e w' ⟨rfl, rfl⟩
      rw [Hby.out]
      by_cases c : d ≤ n
      · have hres : (bandTo sb.data.toList d == bandTo sa.data.toList d) = true := by rw [hfin.out.2 c]; simp
        go_wp2_with fail
        refine (below_any sb sa n _ (by omega) (by omega)).mono ?_
        rintro e w' ⟨rfl, rfl⟩
        rw [show depthNat (n : Int) = n from by unfold depthNat; omega, Hal.out]
        go_wp2_with fail
        refine (below_any sb sa (n + 1) _ (by omega) (by omega)).mono ?_
        rintro e w' ⟨rfl, rfl⟩
        rw [show depthNat ((n : Int) + 1) = n + 1 from by unfold depthNat; omega, hlen.out]
        go_wp2
        go_ret
        exact ⟨rfl, hw3⟩
      · have hres : (bandTo sb.data.toList d == bandTo sa.data.toList d) = false := by
          rw [beq_eq_false_iff_ne]; exact fun h => c (hfin.out.1 h)
        go_wp2_with fail
        refine (below_any sb sa n _ (by omega) (by omega)).mono ?_
        rintro e w' ⟨rfl, rfl⟩
        rw [show depthNat (n : Int) = n from by unfold depthNat; omega, Hal.out]
        go_wp2_with fail
        refine (below_any sb sa (n + 1) _ (by omega) (by omega)).mono ?_
        rintro e w' ⟨rfl, rfl⟩
        rw [show depthNat ((n : Int) + 1) = n + 1 from by unfold depthNat; omega, hlen.out]
        go_wp2
        go_ret
        exact ⟨rfl, hw3⟩
  · rw [Bool.not_eq_true] at hgt
    have hle : Op.bytesLess sb.data.toList sa.data.toList = false := by
      rw [ByteArray.toList_eq, ByteArray.toList_eq] at hgt
      by_cases e : sa.data.toList = sb.data.toList
      · rw [e]; exact less_irrefl _
      · refine less_asymm _ _ ?_
        have e2 : (sa.data.toList == sb.data.toList) = false := beq_eq_false_iff_ne.2 e
        rw [e2] at hgt
        simpa using hgt
    go_wp2_with fail
    refine (common_any sa sb 16 _ hssa hssb (by decide)).mono ?_
    rintro e w' ⟨n, rfl, hn, hal, hne, q, rfl⟩
    have F := facts sa.data.toList sb.data.toList hlsa hlsb n d hle (by omega) hal hne (by omega)
    have hw3 : Below w.heap.size w (w2.drewN q) := hw2.trans ⟨rfl, rfl, rfl, Nat.le_refl _, fun _ _ => rfl⟩
    clear hw2
    generalize w2.drewN q = w3 at hw3
    have hbx : bandI sa.data.toList d = bandTo sa.data.toList d := by unfold bandI; rw [if_pos (by omega)]; rfl
    have hby : bandI sb.data.toList d = bandTo sb.data.toList d := by unfold bandI; rw [if_pos (by omega)]; rfl
    have Hbx := Lib.hid hbx
    have Hby := Lib.hid hby
    have Hal := Lib.hid hal
    have Hne := Lib.hid hne
    clear hbx hby hal hne hle
    by_cases hn128 : n = 128
    · have hxy : sa = sb := Go.WideShapes.bytes_inj (F.eq.1 hn128)
      subst hxy hn128
      clear F
      go_wp2_with fail
      refine (band_any sa d _ (by omega)).mono ?_
      rintro e w' ⟨rfl, rfl⟩
      rw [Hbx.out]
      go_wp2_with fail
      refine (band_any sa d _ (by omega)).mono ?_
      rintro e w' ⟨rfl, rfl⟩
      rw [Hbx.out]
      go_wp2_with fail
      refine (band_any sa d _ (by omega)).mono ?_
      rintro e w' ⟨rfl, rfl⟩
      rw [Hbx.out]
      go_wp2_with fail
      refine (band_any sa d _ (by omega)).mono ?_
      rintro e w' ⟨rfl, rfl⟩
      rw [Hbx.out]
      go_wp2_with fail
      refine (below_any sa sa 128 _ (by omega) (by omega)).mono ?_
      rintro e w' ⟨rfl, rfl⟩
      rw [show depthNat 128 = 128 from by decide, Hal.out]
      go_wp2
      go_ret
      exact ⟨rfl, hw3⟩
    · have hlt : n < 128 := by omega
      obtain ⟨p0, p1⟩ := F.bits hlt
      have hxy : (sa.toList == sb.toList) = false := by
        rw [ByteArray.toList_eq, ByteArray.toList_eq, beq_eq_false_iff_ne]; intro e; exact hn128 (F.eq.2 e)
      have hnn : ((n : Int) == 128) = false := by rw [beq_eq_false_iff_ne]; omega
      have hle2 := F.le
      have hlen := Lib.hid (F.less hlt)
      have hfin := Lib.hid F.same
      have Hp0 := Lib.hid p0
      have Hp1 := Lib.hid p1
      clear hn128 F p0 p1
      go_wp2_with fail
      refine (bit_any sa n _ (by omega)).mono ?_
      rintro e w' ⟨rfl, rfl⟩
      rw [bitI_nat, Hp0.out]
      go_wp2_with fail
      refine (bit_any sb n _ (by omega)).mono ?_
      rintro e w' ⟨rfl, rfl⟩
      rw [bitI_nat, Hp1.out]
      go_wp2_with fail
      refine (band_any sa d _ (by omega)).mono ?_
      rintro e w' ⟨rfl, rfl⟩
      rw [Hbx.out]
      go_wp2_with fail
      refine (band_any sb d _ (by omega)).mono ?_
      rintro e w' ⟨rfl, rfl⟩
      rw [Hby.out]
      go_wp2_with fail
      refine (band_any sa d _ (by omega)).mono ?_
      rintro e w' ⟨rfl, rfl⟩
      rw [Hbx.out]
      go_wp2_with fail
      refine (band_any sb d _ (by omega)).mono ?_
      rintro e w' ⟨rfl, rfl⟩
      rw [Hby.out]
      by_cases c : d ≤ n
      · have hres : (bandTo sa.data.toList d == bandTo sb.data.toList d) = true := by rw [hfin.out.2 c]; simp
        go_wp2_with fail
        refine (below_any sa sb n _ (by omega) (by omega)).mono ?_
        rintro e w' ⟨rfl, rfl⟩
        rw [show depthNat (n : Int) = n from by unfold depthNat; omega, Hal.out]
        go_wp2_with fail
        refine (below_any sa sb (n + 1) _ (by omega) (by omega)).mono ?_
        rintro e w' ⟨rfl, rfl⟩
        rw [show depthNat ((n : Int) + 1) = n + 1 from by unfold depthNat; omega, hlen.out]
        go_wp2
        go_ret
        exact ⟨rfl, hw3⟩
      · have hres : (bandTo sa.data.toList d == bandTo sb.data.toList d) = false := by
          rw [beq_eq_false_iff_ne]; exact fun h => c (hfin.out.1 h)
        go_wp2_with fail
        refine (below_any sa sb n _ (by omega) (by omega)).mono ?_
        rintro e w' ⟨rfl, rfl⟩
        rw [show depthNat (n : Int) = n from by unfold depthNat; omega, Hal.out]
        go_wp2_with fail
        refine (below_any sa sb (n + 1) _ (by omega) (by omega)).mono ?_
        rintro e w' ⟨rfl, rfl⟩
        rw [show depthNat ((n : Int) + 1) = n + 1 from by unfold depthNat; omega, hlen.out]
        go_wp2
        go_ret
        exact ⟨rfl, hw3⟩

/-! ### The row's step -/
set_option maxRecDepth 100000 in
theorem lifted (os : Os) (started : os.Started) (H : Type) (enc : TypeId × Value → H) :
    ReturnsInHanded {} Try.checked os 4 .any (Rows.bitsOrderSpec.pre6 enc Try.prog Try.f4 Rows.bitsOrderRow.domain false) (Rows.bitsOrderSpec.post enc Try.prog Try.f4 false true false false) := by
  refine returnsInHanded_of_change (C := Try.checked) own started (by kernel_rfl) Try.func4
    (ChangeSpec.witness6 (enc := enc) (C := Try.checked) false ⟨#[], #[.agg #[.int .u8 0, .int .u8 0, .int .u8 0, .int .u8 0, .int .u8 0, .int .u8 0, .int .u8 0, .int .u8 0, .int .u8 0, .int .u8 0, .int .u8 0, .int .u8 0, .int .u8 0, .int .u8 0, .int .u8 0, .int .u8 0], .agg #[.int .u8 0, .int .u8 0, .int .u8 0, .int .u8 0, .int .u8 0, .int .u8 0, .int .u8 0, .int .u8 0, .int .u8 0, .int .u8 0, .int .u8 0, .int .u8 0, .int .u8 0, .int .u8 0, .int .u8 0, .int .u8 0], .int .u8 0], []⟩ 8 (by kernel_rfl) (by kernel_rfl) (by kernel_rfl) (by kernel_rfl)) ?_
  intro W base args ds gs before hval0 hW hcnd _
  have hval : ∀ (j : Nat) t v, Try.f4.params[j]? = some t → args[j]? = some v → Value.okWide Try.prog W .any base t v := hval0
  have hW' := hW
  obtain ⟨p, q, hA0, hV, rfl, hfz, hnd⟩ := hW
  have hA : DataW.TrodAll enc Try.prog W 0 (fun _ => true) true Try.f4.params.toList args.toList ds p := hA0
  rw [Try.params4] at hA hval
  obtain ⟨v0, vs0, d0, ds0, p0, q0, hargs, rfl, rfl, h0, r0⟩ := trodAll_cons hA
  obtain ⟨v1, vs1, d1, ds1, p1, q1, rfl, rfl, rfl, h1, r1⟩ := trodAll_cons r0
  obtain ⟨v2, vs2, d2, ds2, p2, q2, rfl, rfl, rfl, h2, r2⟩ := trodAll_cons r1
  obtain ⟨rfl, rfl, rfl⟩ := trodAll_nil r2
  obtain rfl : args = #[v0, v1, v2] := by cases args; simp_all
  obtain ⟨rfl, rfl⟩ := trodVars_none hV
  have k0 := h0
  have lt0 := lt_of_trod h0
  obtain ⟨a0, rfl, w0⟩ := open_bytes Try.underlying22 Try.underlying5 (by kernel_rfl) (by kernel_rfl) (hval 0 22 v0 rfl rfl) h0
  have k1 := h1
  have lt1 := lt_of_trod h1
  obtain ⟨a1, rfl, w1⟩ := open_bytes Try.underlying22 Try.underlying5 (by kernel_rfl) (by kernel_rfl) (hval 1 22 v1 rfl rfl) h1
  have k2 := h2
  have lt2 := lt_of_trod h2
  obtain ⟨a2, rfl, _, _, w2⟩ := open_int Try.underlying5 (hval 2 5 v2 rfl rfl) h2
  clear hA0 hval0 hval
  refine (walk a0 w0 a1 w1 a2 w2 W).mono fun e W' ⟨he, bel⟩ => ?_
  subst he
  exact ⟨_, rfl, _, _, _, [], _, [], hW', trodAll_mk1 (shut_bool Try.underlying4 _), (trodAll_cons_mk (Below.trod laidOut (by kernel_rfl) (of_decide_eq_true (by kernel_rfl)) k0 bel lt0) (trodAll_cons_mk (Below.trod laidOut (by kernel_rfl) (of_decide_eq_true (by kernel_rfl)) k1 bel lt1) (trodAll_cons_mk (Below.trod laidOut (by kernel_rfl) (of_decide_eq_true (by kernel_rfl)) k2 bel lt2) trodAll_mk0))), rfl, bel.frame _, fun h => by cases h⟩

theorem over : Rows.bitsOrderRow.holds Try.pinned (OpenSpec.ofChange Rows.bitsOrderSpec) :=
  OpenClaim.holds_of_wide 4 Try.f4 rfl rfl rfl rfl rfl rfl rfl ⟨rfl, rfl, rfl, rfl, rfl⟩ rfl rfl rfl rfl rfl (by kernel_rfl) Try.func4 (by kernel_rfl)
    (of_decide_eq_true (by kernel_rfl)) (by unfold Func.isWrapper; first | (rw [if_pos (by decide +kernel)]; kernel_rfl) | (rw [if_neg (by decide +kernel)]; exact ⟨rfl, rfl⟩))
    (fun os started H enc _ => lifted os started H enc)

theorem proved : Rows.BitsOrderSaid := over
#print axioms proved
end Go.Proofs.Ytfanclafohjofaa.bitsOrder
