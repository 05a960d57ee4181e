/- plumboblaw12.BitsBands returns true at every input and leaves it as it was. Conditions: none. -/
import Derived.Test.YtfanclafohjofaaSpeaks12
import Derived.Test.YtfanclafohjofaaRefBit
import Derived.Test.YtfanclafohjofaaOpen
import Derived.Test.YtfanclafohjofaaRows
import Derived.WalkKit
import Derived.ProofKit
import Derived.OpenShut
import Derived.ShutString
import Derived.ChangeOld
import Derived.Below
namespace Go.Proofs.Ytfanclafohjofaa.bitsBands
open Go.ChangeShapes Go.WideShapes Go.ChangeAt Go.RowKit
open Go.ChangeMaps (open_string shut_string)
set_option linter.unusedVariables false

theorem own : ownKnob Try.prog.godebug = none := by kernel_rfl
theorem laidOut : laidOutB Try.prog = true := by kernel_rfl

theorem bit_two (t : Int) (h0 : 0 ≤ t) (h1 : t < 65536) (i : Nat) (hi : i < 16) : bitAt (twoBytes t) i = t / 2 ^ (15 - i) % 2 := by
  obtain ⟨t, rfl⟩ := Int.eq_ofNat_of_zero_le h0
  have ht : t < 65536 := by omega
  have key : ∀ i, i < 8 → (t / 256) / 2 ^ (7 - i) = t / 2 ^ (15 - i) := by
    intro i hi
    rw [Nat.div_div_eq_div_mul, show 256 * 2 ^ (7 - i) = 2 ^ (15 - i) from by rw [show 15 - i = 8 + (7 - i) from by omega, Nat.pow_add]]
  have g0 : (UInt8.ofNat ((t : Int) / 256).toNat).toNat = t / 256 := by simp; omega
  have g1 : (UInt8.ofNat ((t : Int) % 256).toNat).toNat = t % 256 := by simp; omega
  by_cases h : i < 8
  · have e : (twoBytes (t : Int)).getD (i / 8) 0 = UInt8.ofNat ((t : Int) / 256).toNat := by rw [show i / 8 = 0 from by omega]; rfl
    unfold bitAt
    rw [e, g0, show i % 8 = i from by omega, key i h]
    push_cast
    rfl
  · have e : (twoBytes (t : Int)).getD (i / 8) 0 = UInt8.ofNat ((t : Int) % 256).toNat := by rw [show i / 8 = 1 from by omega]; rfl
    unfold bitAt
    rw [e, g1, show 7 - i % 8 = 15 - i from by omega]
    have hm : t % 256 / 2 ^ (15 - i) % 2 = t / 2 ^ (15 - i) % 2 := by
      have : ∀ j, j < 8 → t % 256 / 2 ^ j % 2 = t / 2 ^ j % 2 := by
        intro j hj
        match j, hj with
        | 0, _ => omega
        | 1, _ => omega
        | 2, _ => omega
        | 3, _ => omega
        | 4, _ => omega
        | 5, _ => omega
        | 6, _ => omega
        | 7, _ => omega
      exact this _ (by omega)
    rw [hm]
    push_cast
    rfl

theorem bit_two_past (t : Int) (i : Nat) (hi : 16 ≤ i) : bitAt (twoBytes t) i = 0 := by
  have e : (twoBytes t).getD (i / 8) 0 = 0 := by
    unfold twoBytes
    rw [List.getD_eq_getElem?_getD, List.getElem?_append_right (by simp; omega)]
    by_cases h : i / 8 - 2 < 14
    · rw [List.getElem?_replicate_of_lt (by simpa using h)]; rfl
    · rw [List.getElem?_eq_none (by simp; omega)]; rfl
  unfold bitAt
  rw [e]
  simp

theorem band_two (t : Int) (h0 : 0 ≤ t) (h1 : t < 65536) (k : Nat) (hk : k ≤ 16) : bandTo (twoBytes t) k = t / 2 ^ (16 - k) := by
  induction k with
  | zero => simp [bandTo]; omega
  | succ k ih =>
    rw [bandTo, ih (by omega), bit_two t h0 h1 k (by omega), show 16 - (k + 1) = 15 - k from by omega, show 16 - k = (15 - k) + 1 from by omega, Int.pow_succ, ← Int.ediv_ediv_of_nonneg (Int.le_of_lt (by exact_mod_cast Nat.two_pow_pos _))]
    omega

theorem top_div (b : Int) (d : Nat) : topOf b d / 2 ^ (16 - d) = b := by
  unfold topOf
  exact Int.mul_ediv_cancel _ (Int.ne_of_gt (by exact_mod_cast Nat.two_pow_pos _))

theorem first_band (b : Int) (d : Nat) (hd : d ≤ 16) (h0 : 0 ≤ b) (h1 : b < p2 d) : bandTo (twoBytes (topOf b d)) d = b := by
  obtain ⟨t0, t1⟩ := topOf_bd b d hd h0 h1
  rw [band_two _ t0 t1 d hd, top_div]

theorem first_low (b : Int) (d : Nat) (hd : d ≤ 16) (h0 : 0 ≤ b) (h1 : b < p2 d) (i : Nat) (hi : d ≤ i) : bitAt (twoBytes (topOf b d)) i = 0 := by
  obtain ⟨t0, t1⟩ := topOf_bd b d hd h0 h1
  by_cases h : i < 16
  · rw [bit_two _ t0 t1 i h]
    unfold topOf
    rw [show 16 - d = (15 - i) + (i - d) + 1 from by omega, Int.pow_succ, Int.pow_add]
    have e : b * (2 ^ (15 - i) * 2 ^ (i - d) * 2) = 2 ^ (15 - i) * (b * 2 ^ (i - d) * 2) := by
      rw [Int.mul_comm b, Int.mul_assoc, Int.mul_assoc, Int.mul_comm (2 ^ (i - d)) (2 * b), Int.mul_comm 2 b, Int.mul_assoc b 2, Int.mul_assoc b, Int.mul_comm 2]
    rw [e, Int.mul_ediv_cancel_left _ (Int.ne_of_gt (by exact_mod_cast Nat.two_pow_pos _))]
    omega
  · exact bit_two_past _ i (by omega)

theorem band_alike (a b : List UInt8) (k : Nat) : bandTo a k = bandTo b k → alikeTo a b k = true := by
  induction k with
  | zero => intro _; rfl
  | succ k ih =>
    intro h
    have := bitAt_bd a k
    have := bitAt_bd b k
    simp only [bandTo] at h
    have e1 : bandTo a k = bandTo b k := by omega
    have e2 : bitAt a k = bitAt b k := by omega
    simp [alikeTo, ih e1, e2]

set_option maxHeartbeats 800000 in
theorem walk_out (key : List UInt8) (hk : key.length = 16) (depth : Int) (band : Int) (hd : depth < 0 ∨ 16 < depth) (w : World) :
    Calls Try.prog 3 #[.agg (bytesV key).toArray, .int .i64 depth, .int .i64 band] w fun e w' => e = .returned (.bool true) ∧ Below w.heap.size w w' := by
  obtain ⟨W0, hW0⟩ : ∃ W0, W0 = w.alloc (.cells (bytesV key).toArray 22) := ⟨_, rfl⟩
  have gA : W0.heap[w.heap.size]? = some (.cells (bytesV key).toArray 22) := by rw [hW0]; exact heap_alloc_new _ _
  have hz0 : w.heap.size + 1 = W0.heap.size := by rw [hW0]; simp
  have hw0 : Below w.heap.size w W0 := by rw [hW0]; exact (Below.refl _ _).alloc (Nat.le_refl _) _
  have hbd : bandI (ByteArray.mk key.toArray).data.toList depth = 0 := by unfold bandI; rw [if_neg (by omega)]
  have hft : firstOf band depth = zeros16 := by unfold firstOf; rw [if_neg (by omega)]
  have hsz := bsize key 16 hk
  generalize hkey : ByteArray.mk key.toArray = ks at hbd hsz
  have Hz0 := Lib.hid hz0
  have Hbd := Lib.hid hbd
  have Hft := Lib.hid hft
  have Hkey := Lib.hid hkey
  clear hz0 hbd hft hkey
  have hcases : (depth < 0) ∨ (0 ≤ depth ∧ 16 < depth) := by omega
  clear hd
  rcases hcases with hd | ⟨hd0, hd⟩
  all_goals
    go_enter Try.func3, Try.ntmps3
    go_wp2_with fail
    rw [← hW0]
    refine (speaks_any _).mono ?_
    rintro e w1 ⟨rfl, hb1⟩
    rw [← Hz0.out] at hb1
    have gA1 : w1.heap[w.heap.size]? = some (.cells (bytesV key).toArray 22) := (hb1.block _ (by omega)).trans gA
    have hw1 := hw0.trans (hb1.mono (by omega))
    have kA := run_string_block (P := Try.prog) Try.underlying24 Try.underlying5 Try.underlying9 (cap := 16) gA1 hk
    rw [Hkey.out] at kA
    clear hb1 gA gA1 hw0 hW0
    go_wp2_with fail
    clear kA
    refine (first_any band depth _).mono ?_
    rintro e w2 ⟨rfl, hb2⟩
    rw [Hft.out]
    have hw2 := hw1.trans (hb2.mono hw1.size)
    go_wp2_with fail
    refine (band_any ks depth _ (by omega)).mono ?_
    rintro e w' ⟨rfl, rfl⟩
    rw [Hbd.out]
    have hmk := make16
    have hst := string_zeros
    have hz : (ByteArray.mk zeros16.toArray).size = 16 := rfl
    generalize ByteArray.mk zeros16.toArray = z at hst hz
    go_wp2
    go_ret
    exact ⟨rfl, hw2.alloc hw2.size _⟩

set_option maxHeartbeats 1600000 in
set_option maxRecDepth 100000 in
theorem walk_in (key : List UInt8) (hk : key.length = 16) (d : Nat) (hd : d ≤ 16) (band : Int) (w : World) :
    Calls Try.prog 3 #[.agg (bytesV key).toArray, .int .i64 d, .int .i64 band] w fun e w' => e = .returned (.bool true) ∧ Below w.heap.size w w' := by
  obtain ⟨W0, hW0⟩ : ∃ W0, W0 = w.alloc (.cells (bytesV key).toArray 22) := ⟨_, rfl⟩
  have gA : W0.heap[w.heap.size]? = some (.cells (bytesV key).toArray 22) := by rw [hW0]; exact heap_alloc_new _ _
  have hz0 : w.heap.size + 1 = W0.heap.size := by rw [hW0]; simp
  have hw0 : Below w.heap.size w W0 := by rw [hW0]; exact (Below.refl _ _).alloc (Nat.le_refl _) _
  have hbd : bandI (ByteArray.mk key.toArray).data.toList d = bandTo (ByteArray.mk key.toArray).data.toList d := by unfold bandI; rw [if_pos (by omega)]; rfl
  have hsz := bsize key 16 hk
  generalize hkey : ByteArray.mk key.toArray = ks at hbd hsz
  have Hz0 := Lib.hid hz0
  have Hbd := Lib.hid hbd
  have Hkey := Lib.hid hkey
  clear hz0 hbd hkey
  have hks : ks.size ≤ 1152921504606846975 := by omega
  have hd16 : decide ((d : Int) ≤ 16) = true := by simp; omega
  have hd0 : decide ((d : Int) < 0) = false := by simp
  have hd17 : decide ((16 : Int) < (d : Int)) = false := by simp; omega
  go_enter Try.func3, Try.ntmps3
  go_wp2_with fail
  rw [← hW0]
  refine (speaks_any _).mono ?_
  rintro e w1 ⟨rfl, hb1⟩
  rw [← Hz0.out] at hb1
  have gA1 : w1.heap[w.heap.size]? = some (.cells (bytesV key).toArray 22) := (hb1.block _ (by omega)).trans gA
  have hw1 := hw0.trans (hb1.mono (by omega))
  have kA := run_string_block (P := Try.prog) Try.underlying24 Try.underlying5 Try.underlying9 (cap := 16) gA1 hk
  rw [Hkey.out] at kA
  clear hb1 gA gA1 hw0 hW0
  go_wp2_with fail
  clear kA
  go_loop [8, 9] (fun n i => ∃ k : Nat, k ≤ d ∧ i = .int .i64 k ∧ n = .int .i64 (bandTo ks.data.toList k)) (fun _ i => d - (intOf i).toNat)
  case atStart => exact ⟨0, Nat.zero_le _, rfl, rfl⟩
  case round =>
    obtain ⟨k, hk, rfl, rfl⟩ := hrel
    by_cases hlt : k < d
    · obtain ⟨b1, b2⟩ := bandTo_bd16 ks.data.toList k (by omega)
      obtain ⟨b3, b4⟩ := bitAt_bd ks.data.toList k
      go_wp2_with fail
      refine (refBit_any ks k _ hks).mono ?_
      rintro e w' ⟨rfl, rfl⟩
      rw [bitI_nat]
      go_wp2
      go_round
      case rel => exact ⟨k + 1, by omega, by go_num, rfl⟩
      case measure => simp [intOf]; omega
    · obtain rfl : k = d := by omega
      obtain ⟨b1, b2⟩ := bandTo_bd16 ks.data.toList k hd
      obtain ⟨p1, p3⟩ := p2_bd k hd
      have hbp : bandTo ks.data.toList k < p2 k := (bandTo_bd _ _).2
      go_wp2_with fail
      refine (first_any band k _).mono ?_
      rintro e w2 ⟨rfl, hb2⟩
      have hw2 := hw1.trans (hb2.mono hw1.size)
      clear hb2 hw1
      by_cases hb : 0 ≤ band ∧ band < p2 k
      · have hft : firstOf band k = twoBytes (topOf band k) := by unfold firstOf; rw [if_pos ⟨by omega, by omega, hb.1, hb.2⟩]; rfl
        rw [hft]
        clear hft
        have hfz : (ByteArray.mk (twoBytes (topOf band k)).toArray).size = 16 := rfl
        have Hlow := Lib.hid (fun i hi => first_low band k hd hb.1 hb.2 i hi)
        have Hbnd := Lib.hid (first_band band k hd hb.1 hb.2)
        obtain ⟨c1, c2⟩ := hb
        have hl : (ByteArray.mk (twoBytes (topOf band k)).toArray).data.toList = twoBytes (topOf band k) := rfl
        rw [← hl] at Hlow Hbnd
        clear hl
        generalize ByteArray.mk (twoBytes (topOf band k)).toArray = f at hfz Hlow Hbnd
        go_wp2_with fail
        refine (band_any ks k _ hks).mono ?_
        rintro e w' ⟨rfl, rfl⟩
        rw [Hbd.out]
        have hp := p2_wrap k hd
        have hb0 : decide (band < 0) = false := by simp; omega
        have hb1 : decide (p2 k ≤ band) = false := by simp; omega
        go_wp2_with fail
        rw [hp]
        clear hp
        go_loop [11] (fun i => ∃ j : Nat, k ≤ j ∧ j ≤ 128 ∧ i = .int .i64 j) (fun i => 128 - (intOf i).toNat)
        case atStart => exact ⟨k, Nat.le_refl _, by omega, rfl⟩
        case round =>
          obtain ⟨j, hj0, hj1, rfl⟩ := hrel
          by_cases hlt : j < 128
          · have Hz := Lib.hid (Hlow.out j hj0)
            go_wp2_with fail
            refine (refBit_any f j _ (by omega)).mono ?_
            rintro e w' ⟨rfl, rfl⟩
            rw [bitI_nat, Hz.out]
            go_wp2
            go_round
            case rel => exact ⟨j + 1, by omega, by omega, by go_num⟩
            case measure => simp [intOf]; omega
          · obtain rfl : j = 128 := by omega
            have hbd2 : bandI f.data.toList k = band := by unfold bandI; rw [if_pos (by omega)]; exact Hbnd.out
            have Hbd2 := Lib.hid hbd2
            have hft2 : firstOf (bandTo ks.data.toList k) k = twoBytes (topOf (bandTo ks.data.toList k) k) := by unfold firstOf; rw [if_pos ⟨by omega, by omega, b1, hbp⟩]; rfl
            have hal : alikeTo ks.data.toList (ByteArray.mk (firstOf (bandTo ks.data.toList k) k).toArray).data.toList (depthNat k) = true := by
              rw [hft2, show depthNat k = k from by unfold depthNat; omega]
              exact band_alike _ _ _ (first_band _ k hd b1 hbp).symm
            have Hal := Lib.hid hal
            have hz2 : (ByteArray.mk (firstOf (bandTo ks.data.toList k) k).toArray).size = 16 := by rw [hft2]; rfl
            have Hz2 := Lib.hid hz2
            clear hbd2 hal hft2 hz2
            go_wp2_with fail
            refine (band_any f k _ (by omega)).mono ?_
            rintro e w' ⟨rfl, rfl⟩
            rw [Hbd2.out]
            go_wp2_with fail
            refine (first_any (bandTo ks.data.toList k) k _).mono ?_
            rintro e w3 ⟨rfl, hb3⟩
            have hw3 := hw2.trans (hb3.mono hw2.size)
            go_wp2_with fail
            refine (below_any ks _ k _ hks (by rw [Hz2.out]; omega)).mono ?_
            rintro e w' ⟨rfl, rfl⟩
            rw [Hal.out]
            go_wp2
            go_ret
            exact ⟨rfl, hw3⟩
      · have hft : firstOf band k = zeros16 := by unfold firstOf; rw [if_neg (fun h => hb ⟨h.2.2.1, h.2.2.2⟩)]
        rw [hft]
        have hmk := make16
        have hst := string_zeros
        have hz : (ByteArray.mk zeros16.toArray).size = 16 := rfl
        generalize ByteArray.mk zeros16.toArray = z at hst hz
        clear hft
        have hp := p2_wrap k hd
        by_cases c0 : band < 0
        · clear hb
          go_wp2_with fail
          refine (band_any ks k _ hks).mono ?_
          rintro e w' ⟨rfl, rfl⟩
          rw [Hbd.out]
          go_wp2
          go_ret
          exact ⟨rfl, hw2.alloc hw2.size _⟩
        · have c1 : p2 k ≤ band := by
            by_cases c : band < p2 k
            · exact absurd ⟨by omega, c⟩ hb
            · omega
          clear hb
          go_wp2_with fail
          refine (band_any ks k _ hks).mono ?_
          rintro e w' ⟨rfl, rfl⟩
          rw [Hbd.out]
          go_wp2
          go_ret
          exact ⟨rfl, hw2.alloc hw2.size _⟩

set_option maxHeartbeats 800000 in
theorem walk (key : List UInt8) (hk : key.length = 16) (depth : Int) (wd : (Lit.int .i64 depth).wf = true) (band : Int) (wb : (Lit.int .i64 band).wf = true) (w : World) :
    Calls Try.prog 3 #[.agg (bytesV key).toArray, .int .i64 depth, .int .i64 band] w fun e w' => e = .returned (.bool true) ∧ Below w.heap.size w w' := by
  by_cases h : 0 ≤ depth ∧ depth ≤ 16
  · obtain ⟨d, rfl⟩ := Int.eq_ofNat_of_zero_le h.1
    exact walk_in key hk d (by omega) band w
  · exact walk_out key hk depth band (by omega) w

/-! ### The row's step -/
set_option maxRecDepth 100000 in
theorem lifted (os : Os) (started : os.Started) (H : Type) (enc : TypeId × Value → H) :
    ReturnsInHanded {} Try.checked os 3 .any (Rows.bitsBandsSpec.pre6 enc Try.prog Try.f3 Rows.bitsBandsRow.domain false) (Rows.bitsBandsSpec.post enc Try.prog Try.f3 false true false false) := by
  refine returnsInHanded_of_change (C := Try.checked) own started (by kernel_rfl) Try.func3
    (ChangeSpec.witness6 (enc := enc) (C := Try.checked) false ⟨#[], #[.agg #[.int .u8 0, .int .u8 0, .int .u8 0, .int .u8 0, .int .u8 0, .int .u8 0, .int .u8 0, .int .u8 0, .int .u8 0, .int .u8 0, .int .u8 0, .int .u8 0, .int .u8 0, .int .u8 0, .int .u8 0, .int .u8 0], .int .i64 0, .int .i64 0], []⟩ 8 (by kernel_rfl) (by kernel_rfl) (by kernel_rfl) (by kernel_rfl)) ?_
  intro W base args ds gs before hval0 hW hcnd _
  have hval : ∀ (j : Nat) t v, Try.f3.params[j]? = some t → args[j]? = some v → Value.okWide Try.prog W .any base t v := hval0
  have hW' := hW
  obtain ⟨p, q, hA0, hV, rfl, hfz, hnd⟩ := hW
  have hA : DataW.TrodAll enc Try.prog W 0 (fun _ => true) true Try.f3.params.toList args.toList ds p := hA0
  rw [Try.params3] at hA hval
  obtain ⟨v0, vs0, d0, ds0, p0, q0, hargs, rfl, rfl, h0, r0⟩ := trodAll_cons hA
  obtain ⟨v1, vs1, d1, ds1, p1, q1, rfl, rfl, rfl, h1, r1⟩ := trodAll_cons r0
  obtain ⟨v2, vs2, d2, ds2, p2, q2, rfl, rfl, rfl, h2, r2⟩ := trodAll_cons r1
  obtain ⟨rfl, rfl, rfl⟩ := trodAll_nil r2
  obtain rfl : args = #[v0, v1, v2] := by cases args; simp_all
  obtain ⟨rfl, rfl⟩ := trodVars_none hV
  have k0 := h0
  have lt0 := lt_of_trod h0
  obtain ⟨a0, rfl, w0⟩ := open_bytes Try.underlying22 Try.underlying5 (by kernel_rfl) (by kernel_rfl) (hval 0 22 v0 rfl rfl) h0
  have k1 := h1
  have lt1 := lt_of_trod h1
  obtain ⟨a1, rfl, _, _, w1⟩ := open_int Try.underlying3 (hval 1 3 v1 rfl rfl) h1
  have k2 := h2
  have lt2 := lt_of_trod h2
  obtain ⟨a2, rfl, _, _, w2⟩ := open_int Try.underlying3 (hval 2 3 v2 rfl rfl) h2
  clear hA0 hval0 hval
  refine (walk a0 w0 a1 w1 a2 w2 W).mono fun e W' ⟨he, bel⟩ => ?_
  subst he
  exact ⟨_, rfl, _, _, _, [], _, [], hW', trodAll_mk1 (shut_bool Try.underlying4 _), (trodAll_cons_mk (Below.trod laidOut (by kernel_rfl) (of_decide_eq_true (by kernel_rfl)) k0 bel lt0) (trodAll_cons_mk (Below.trod laidOut (by kernel_rfl) (of_decide_eq_true (by kernel_rfl)) k1 bel lt1) (trodAll_cons_mk (Below.trod laidOut (by kernel_rfl) (of_decide_eq_true (by kernel_rfl)) k2 bel lt2) trodAll_mk0))), rfl, bel.frame _, fun h => by cases h⟩

theorem over : Rows.bitsBandsRow.holds Try.pinned (OpenSpec.ofChange Rows.bitsBandsSpec) :=
  OpenClaim.holds_of_wide 3 Try.f3 rfl rfl rfl rfl rfl rfl rfl ⟨rfl, rfl, rfl, rfl, rfl⟩ rfl rfl rfl rfl rfl (by kernel_rfl) Try.func3 (by kernel_rfl)
    (of_decide_eq_true (by kernel_rfl)) (by unfold Func.isWrapper; first | (rw [if_pos (by decide +kernel)]; kernel_rfl) | (rw [if_neg (by decide +kernel)]; exact ⟨rfl, rfl⟩))
    (fun os started H enc _ => lifted os started H enc)

theorem proved : Rows.BitsBandsSaid := over
#print axioms proved
end Go.Proofs.Ytfanclafohjofaa.bitsBands
