/- bits.Common: how many bits two texts begin with alike. Conditions: texts no longer than the model's bound. -/
import Derived.Test.YtfanclafohjofaaBelow
import Derived.Laws.BitsAllLaws
namespace Go.Proofs.Ytfanclafohjofaa
open Go.RowKit


/-- How many noughts a byte begins with. -/
def lzOf (x : Nat) : Int := 8 - ((if x = 0 then 0 else Nat.log2 x + 1 : Nat) : Int)
theorem lz_tab (T : ByteArray) (h : ∀ x : Fin T.size, wrap64 (8 - wrap64 ((T[x.val]'x.isLt).toNat : Int)) = lzOf x.val) (x : Nat) (hx : x < T.size) :
    Ending.returned (.int .i64 (wrap64 (8 - wrap64 ((T[x]'hx).toNat : Int)))) = .returned (.int .i64 (lzOf x)) := by
  rw [h ⟨x, hx⟩]

set_option maxRecDepth 100000 in
theorem lz8_any (x : Nat) (w : World) (hx : x < 256) :
    Calls Try.prog 12 #[.int .u8 x] w fun e w' => e = .returned (.int .i64 (lzOf x)) ∧ w = w' := by
  go_enter Try.func12, Try.ntmps12
  go_wp2
  go_ret
  exact ⟨lz_tab _ (by decide +kernel) x _, rfl⟩

theorem byteBit (x i : Nat) : x / 2 ^ i % 2 = if x.testBit i then 1 else 0 := by
  rw [Nat.testBit_eq_decide_div_mod_eq]
  by_cases h : x / 2 ^ i % 2 = 1
  · simp [h]
  · have : x / 2 ^ i % 2 = 0 := by omega
    simp [this]

theorem xor_zero_eq (x y : Nat) (h : x ^^^ y = 0) : x = y := by
  apply Nat.eq_of_testBit_eq
  intro i
  have : (x ^^^ y).testBit i = false := by rw [h]; simp
  rw [Nat.testBit_xor] at this
  cases hx : x.testBit i <;> cases hy : y.testBit i <;> simp_all

/-- Two bytes that part, part at the first bit of their exclusive or. -/
theorem part_at (x y : Nat) (hx : x < 256) (hy : y < 256) (h : x ^^^ y ≠ 0) :
    Nat.log2 (x ^^^ y) ≤ 7 ∧ (∀ i, Nat.log2 (x ^^^ y) < i → x / 2 ^ i % 2 = y / 2 ^ i % 2) ∧ x / 2 ^ Nat.log2 (x ^^^ y) % 2 ≠ y / 2 ^ Nat.log2 (x ^^^ y) % 2 := by
  have hz : x ^^^ y < 256 := Nat.xor_lt_two_pow (n := 8) hx hy
  have hl : Nat.log2 (x ^^^ y) < 8 := (Nat.log2_lt h).2 hz
  refine ⟨by omega, fun i hi => ?_, ?_⟩
  · have : (x ^^^ y).testBit i = false := Nat.testBit_lt_two_pow ((Nat.log2_lt h).1 hi)
    rw [Nat.testBit_xor] at this
    rw [byteBit, byteBit]
    cases hx' : x.testBit i <;> cases hy' : y.testBit i <;> simp_all
  · have : (x ^^^ y).testBit (Nat.log2 (x ^^^ y)) = true := by
      generalize x ^^^ y = z at h
      rw [Nat.testBit_eq_decide_div_mod_eq]
      have h1 : 2 ^ Nat.log2 z ≤ z := Nat.log2_self_le h
      have h2 : z < 2 ^ (Nat.log2 z + 1) := Nat.lt_log2_self
      have h3 : z / 2 ^ Nat.log2 z = 1 := by
        apply Nat.div_eq_of_lt_le
        · omega
        · rw [Nat.pow_succ] at h2; omega
      simp [h3]
    rw [Nat.testBit_xor] at this
    rw [byteBit, byteBit]
    cases hx' : x.testBit (Nat.log2 (x ^^^ y)) <;> cases hy' : y.testBit (Nat.log2 (x ^^^ y)) <;> simp_all

theorem alikeTo_iff (a b : List UInt8) (n : Nat) : alikeTo a b n = true ↔ ∀ i, i < n → bitAt a i = bitAt b i := by
  induction n with
  | zero => simp [alikeTo]
  | succ n ih =>
    simp only [alikeTo, Bool.and_eq_true, beq_iff_eq, ih]
    constructor
    · intro ⟨h1, h2⟩ i hi
      by_cases e : i = n
      · subst e; exact h2
      · exact h1 i (by omega)
    · intro h; exact ⟨fun i hi => h i (by omega), h n (by omega)⟩

theorem alike_byte (a b : List UInt8) (k : Nat) (h : alikeTo a b (8 * k) = true) (he : a.getD k 0 = b.getD k 0) : alikeTo a b (8 * (k + 1)) = true := by
  rw [alikeTo_iff] at h ⊢
  intro i hi
  by_cases hlt : i < 8 * k
  · exact h i hlt
  · unfold bitAt
    rw [show i / 8 = k from by omega, he]

/-- Where the first byte that differs is k. -/
theorem alike_part (a b : List UInt8) (k : Nat) (h : alikeTo a b (8 * k) = true) (z : Nat) (hz : z = (a.getD k 0).toNat ^^^ (b.getD k 0).toNat) (h0 : z ≠ 0) :
    ∃ n : Nat, (n : Int) = 8 * k + lzOf z ∧ n < 8 * (k + 1) ∧ alikeTo a b n = true ∧ bitAt a n ≠ bitAt b n := by
  subst hz
  obtain ⟨h1, h2, h3⟩ := part_at _ _ (a.getD k 0).toNat_lt (b.getD k 0).toNat_lt h0
  generalize hl : Nat.log2 ((a.getD k 0).toNat ^^^ (b.getD k 0).toNat) = l at h1 h2 h3
  refine ⟨8 * k + (7 - l), ?_, by omega, ?_, ?_⟩
  · unfold lzOf; rw [if_neg h0, hl]; omega
  · rw [alikeTo_iff] at h ⊢
    intro i hi
    by_cases hlt : i < 8 * k
    · exact h i hlt
    · unfold bitAt
      rw [show i / 8 = k from by omega]
      have := h2 (7 - i % 8) (by omega)
      omega
  · unfold bitAt
    rw [show (8 * k + (7 - l)) / 8 = k from by omega, show 7 - (8 * k + (7 - l)) % 8 = l from by omega]
    omega

set_option maxHeartbeats 400000 in
/-- bits.Common: how many bits both begin with alike. -/
theorem common_any (s t : ByteArray) (m : Nat) (w : World) (hs : s.size = m) (ht : t.size = m) (hm : m ≤ 1000000) :
    Calls Try.prog 10 #[.string s, .string t] w fun e w' => ∃ n : Nat, e = .returned (.int .i64 n) ∧ n ≤ 8 * m ∧ alikeTo s.data.toList t.data.toList n = true ∧ (n < 8 * m → bitAt s.data.toList n ≠ bitAt t.data.toList n) ∧ ∃ q, w' = w.drewN q := by
  go_enter Try.func10, Try.ntmps10
  go_wp2
  go_loopw [14] (fun i W => (∃ n, W = w.drewN n) ∧ ∃ k : Nat, k ≤ m ∧ i = .int .i64 k ∧ alikeTo s.data.toList t.data.toList (8 * k) = true) (fun i _ => m - (intOf i).toNat)
  case atStart => exact ⟨⟨0, rfl⟩, 0, Nat.zero_le _, rfl, rfl⟩
  case round =>
    obtain ⟨⟨n, rfl⟩, k, hk, rfl, hal⟩ := hrel
    have Hal := Lib.hid hal
    clear hal
    by_cases hlt : k < m
    · have hks : k < s.size := by omega
      have hkt : k < t.size := by omega
      have hx := u8_xor_nat (s[k]).toNat (t[k]).toNat (s[k]).toNat_lt (t[k]).toNat_lt
      have hz : (s[k]).toNat ^^^ (t[k]).toNat < 256 := Nat.xor_lt_two_pow (n := 8) (s[k]).toNat_lt (t[k]).toNat_lt
      have e3 : s.data.toList.getD k 0 = s[k] := by
        rw [List.getD_eq_getElem?_getD, List.getElem?_eq_getElem (by simpa using hks)]; rfl
      have e4 : t.data.toList.getD k 0 = t[k] := by
        rw [List.getD_eq_getElem?_getD, List.getElem?_eq_getElem (by simpa using hkt)]; rfl
      have Hp := Lib.hid (alike_part s.data.toList t.data.toList k Hal.out ((s[k]).toNat ^^^ (t[k]).toNat) (by rw [e3, e4]))
      have Hb := Lib.hid (show (s[k]).toNat ^^^ (t[k]).toNat = 0 → alikeTo s.data.toList t.data.toList (8 * (k + 1)) = true from fun h => alike_byte _ _ k Hal.out (by rw [e3, e4]; exact UInt8.toNat_inj.1 (xor_zero_eq _ _ h)))
      clear e3 e4
      generalize (s[k]).toNat ^^^ (t[k]).toNat = z at hx hz Hp Hb
      by_cases h0 : z = 0
      · have Hc := Lib.hid (Hb.out h0)
        clear Hb
        subst h0
        go_wp2_with fail
        go_quiet (fail)
        go_wp2
        go_roundw
        case rel => exact ⟨⟨_, rfl⟩, k + 1, by omega, by go_num, Hc.out⟩
        case measure => simp [intOf]; omega
      · have h0' : ((z : Int) != 0) = true := by rw [bne_iff_ne]; omega
        have Hp := Lib.hid (Hp.out h0)
        clear h0
        go_wp2_with fail
        go_quiet (fail)
        go_wp2_with fail
        refine (lz8_any z _ hz).mono ?_
        rintro e w' ⟨rfl, rfl⟩
        have hlz : 0 ≤ lzOf z ∧ lzOf z ≤ 8 := by
          unfold lzOf
          by_cases e : z = 0
          · simp [e]
          · have := (Nat.log2_lt e).2 (show z < 2 ^ 8 from hz)
            rw [if_neg e]; omega
        obtain ⟨l0, l1⟩ := hlz
        go_wp2
        go_ret
        obtain ⟨n', hn1, hn2, hn3, hn4⟩ := Hp.out
        exact ⟨n', ret_int (by rw [hn1]), by omega, hn3, fun _ => hn4, _, rfl⟩
    · obtain rfl : k = m := by omega
      go_wp2
      go_ret
      exact ⟨8 * k, ret_int (by simp), Nat.le_refl _, Hal.out, fun h => absurd h (by omega), n, rfl⟩

end Go.Proofs.Ytfanclafohjofaa
