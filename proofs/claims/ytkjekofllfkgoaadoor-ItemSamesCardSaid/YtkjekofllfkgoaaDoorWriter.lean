/- octet.Writer's methods: what is written. Conditions: the writer lies in a block of its own, its text is far shorter than 2^47 bytes. -/
import Derived.Test.YtkjekofllfkgoaaDoorBuilder
import Derived.StillTailTactics
import Derived.BigQuiet
import Derived.Deep.QuietTactic
namespace Go.Proofs.YtkjekofllfkgoaaDoor
open Go.RowKit

/-- Block b is a writer whose buffer is v, with l written and this error. -/
def Wr (w : World) (b : Nat) (v : Value) (l : List UInt8) (bad : Int) : Prop := ∃ ad, Bu w 72 b 0 #[ad, v, .int .i64 bad] v l

theorem lies_writer : Lies 72 3 0 := by unfold Lies; kernel_rfl
theorem writer_ne : 72 ≠ 5 := by decide
theorem Wr.touch {w w' : World} {b : Nat} {v : Value} {l : List UInt8} {bad : Int} {S : Nat → Prop} (h : Wr w b v l bad) (ht : Touch S w w') (hb : ¬ S b) (hv : ∀ k, v.ownBlock = some k → ¬ S k) : Wr w' b v l bad := by
  obtain ⟨ad, h⟩ := h; exact ⟨ad, h.touch ht hb hv⟩
theorem Wr.e {w : World} {b : Nat} {v : Value} {l : List UInt8} {bad : Int} (h : Wr w b v l bad) : w.cell? ⟨b, 2, none⟩ = some (.int .i64 bad) := by
  obtain ⟨ad, h⟩ := h; rw [cell_of_row w b 2 _ _ _ h.blk]; rfl
theorem Wr.fr {w : World} {b : Nat} {v : Value} {l : List UInt8} {bad : Int} (h : Wr w b v l bad) (i : Nat) : w.frozen? ⟨b, i, none⟩ = false := by
  obtain ⟨ad, h⟩ := h; exact frozen_of_row w b i _ _ h.blk
theorem Wr.set_e {w : World} {b : Nat} {v : Value} {l : List UInt8} {bad : Int} (h : Wr w b v l bad) (z : Int) : Wr (w.setCell ⟨b, 2, none⟩ (.int .i64 z)) b v l z := by
  obtain ⟨ad, h⟩ := h
  refine ⟨ad, heap_setCell_same w b 2 _ _ _ h.blk, h.addr, rfl, ?_, h.ne⟩
  exact (Touch.setCell (S := (· = b)) w ⟨b, 2, none⟩ (.int .i64 z) rfl).own h.own (fun k hk e => h.ne (by rw [hk]; exact congrArg some e))

def flBad (ok : Bool) (bad e : Int) : Int := if ok = false ∧ bad = 0 then e else bad

theorem fail_any (b : Nat) (v : Value) (l : List UInt8) (bad : Int) (ok : Bool) (e : Int) (w : World) (h : Wr w b v l bad) :
    Calls Tryd.prog 46 #[.pointer (some ⟨b, 0, none⟩), .bool ok, .int .i64 e] w fun r w' => r = .returned (.bool (flBad ok bad e == 0)) ∧ Wr w' b v l (flBad ok bad e) ∧ Touch (· = b) w w' := by
  have he := h.e
  have hf := h.fr 2
  by_cases hb : bad = 0
  · subst hb
    cases ok
    · have H := Lib.hid (show flBad false 0 e = e from if_pos ⟨rfl, rfl⟩)
      go_enter Tryd.func46, Tryd.ntmps46
      go_wp2
      go_ret
      exact ⟨by rw [H.out]; rfl, by rw [H.out]; exact h.set_e e, Touch.setCell _ _ _ rfl⟩
    · have H := Lib.hid (show flBad true 0 e = 0 from if_neg (fun h => by cases h.1))
      go_enter Tryd.func46, Tryd.ntmps46
      go_wp2
      go_ret
      exact ⟨by rw [H.out]; rfl, by rw [H.out]; exact h, Touch.refl _ _⟩
  · have H := Lib.hid (show flBad ok bad e = bad from if_neg (fun h => hb h.2))
    have hb' := beq_eq_false_iff_ne.2 hb
    clear hb
    cases ok
    all_goals
      go_enter Tryd.func46, Tryd.ntmps46
      go_wp2
      go_ret
      exact ⟨by rw [H.out, hb']; rfl, by rw [H.out]; exact h, Touch.refl _ _⟩

theorem NewOrSame.trans {w W : World} {v v1 v2 : Value} (h : NewOrSame w v v1) (hs : w.heap.size ≤ W.heap.size) (k : NewOrSame W v1 v2) : NewOrSame w v v2 := by
  rcases k with k | k
  · rcases h with h | h
    · exact .inl (k.trans h)
    · exact .inr fun i hi => h i (by rw [← k]; exact hi)
  · exact .inr fun i hi => Nat.le_trans hs (k i hi)
theorem BuS_sub {w : World} {b : Nat} {v v1 : Value} (h : NewOrSame w v v1) : ∀ i, BuS b v1 i → BuS b v i ∨ w.heap.size ≤ i := by
  intro i hi
  rcases hi with hi | hi
  · exact .inl (.inl hi)
  · rcases h with h | h
    · exact .inl (.inr (by rw [← h]; exact hi))
    · exact .inr (h i hi)
theorem Touch.bu {w W W' : World} {b : Nat} {v v1 : Value} (h : Touch (BuS b v) w W) (hn : NewOrSame w v v1) (k : Touch (BuS b v1) W W') : Touch (BuS b v) w W' := h.then k (BuS_sub hn)

def byteAt (n k : Nat) : UInt8 := UInt8.ofNat (n / 256 ^ k)
theorem byteAt_wrap (n k : Nat) : IntKind.u8.wrap ((n : Int) / 2 ^ (8 * k)) = ((byteAt n k).toNat : Int) := by
  have e : (2 : Int) ^ (8 * k) = ((256 ^ k : Nat) : Int) := by
    rw [Int.pow_mul, Int.natCast_pow, show (2 : Int) ^ 8 = ((256 : Nat) : Int) from by decide]
  have e2 : (n : Int) / ((256 ^ k : Nat) : Int) = ((n / 256 ^ k : Nat) : Int) := (Int.natCast_ediv _ _).symm
  rw [IntKind.wrap_u8, e, e2]
  unfold byteAt
  generalize n / 256 ^ k = q
  simp

/-- A write through the writer's builder. -/
theorem Wr.of_bu {w : World} {b : Nat} {ad v v' : Value} {l : List UInt8} {bad : Int} (h : Bu w 72 b 0 (buCells #[ad, v, .int .i64 bad] b 0 v') v' l) : Wr w b v' l bad := ⟨_, h⟩

/-- The bytes of a number, the highest first: the first j of size. -/
def bytesTo (n size : Nat) : Nat → List UInt8
  | 0 => []
  | j + 1 => bytesTo n size j ++ [byteAt n (size - 1 - j)]

theorem bytesTo_le (n size j : Nat) : (bytesTo n size j).length = j := by
  induction j with
  | zero => rfl
  | succ j ih => simp [bytesTo, ih]
theorem bytesTo_step (n size k : Nat) (h : k + 1 ≤ size) : bytesTo n size ((size : Int) - 1 - k).toNat ++ [byteAt n k] = bytesTo n size ((size : Int) - 1 - (k - 1 : Int)).toNat := by
  obtain ⟨j, hj⟩ : ∃ j, j = ((size : Int) - 1 - k).toNat := ⟨_, rfl⟩
  rw [← hj, show ((size : Int) - 1 - (k - 1 : Int)).toNat = j + 1 from by omega, bytesTo, show size - 1 - j = k from by omega]

theorem flBad_ok (e : Int) : flBad true 0 e = 0 := if_neg (fun h => by cases h.1)

set_option maxRecDepth 100000 in
set_option maxHeartbeats 800000 in
theorem wrNum_in (b : Nat) (n size : Nat) (w : World) (v : Value) (l : List UInt8) (h1 : 1 ≤ size) (h8 : size ≤ 8) (h : Wr w b v l 0) (hl : l.length ≤ 70368744177664) (hs : (n : Int) / 2 ^ (8 * size) = 0) :
    Calls Tryd.prog 36 #[.pointer (some ⟨b, 0, none⟩), .int .u64 n, .int .i64 size] w fun e w' => e = .returned (.pointer (some ⟨b, 0, none⟩)) ∧ ∃ v', Wr w' b v' (l ++ bytesTo n size size) 0 ∧ Touch (BuS b v) w w' ∧ NewOrSame w v v' := by
  have key : ∀ c : Bool, ((size : Int) == 8) = c → Calls Tryd.prog 36 #[.pointer (some ⟨b, 0, none⟩), .int .u64 n, .int .i64 size] w fun e w' => e = .returned (.pointer (some ⟨b, 0, none⟩)) ∧ ∃ v', Wr w' b v' (l ++ bytesTo n size size) 0 ∧ Touch (BuS b v) w w' ∧ NewOrSame w v v' := by
    intro c hc
    have hd8 : decide ((size : Int) ≤ 8) = true := by simp; omega
    cases c
    all_goals
      go_enter Tryd.func36, Tryd.ntmps36
      go_wp2_with fail
      refine (fail_any b v l 0 true 10 _ h).mono ?_
      rintro r w1 ⟨rfl, hw1, ht1⟩
      rw [flBad_ok] at hw1 ⊢
      go_wp2_with fail
      go_loopw [7] (fun k W => ∃ (z : Int) (v' : Value), -1 ≤ z ∧ z < (size : Int) ∧ k = .int .i64 z ∧ Wr W b v' (l ++ bytesTo n size ((size : Int) - 1 - z).toNat) 0 ∧ Touch (BuS b v) w W ∧ NewOrSame w v v') (fun k _ => (intOf k + 1).toNat)
      case atStart => exact ⟨(size : Int) - 1, v, by omega, by omega, rfl, by rw [show ((size : Int) - 1 - (size - 1)).toNat = 0 from by omega]; simpa [bytesTo] using hw1, ht1.mono (fun _ hi => .inl (.inl hi)), .inl rfl⟩
      case round =>
        obtain ⟨z, v1, hz0, hz1, rfl, hw, ht, hns⟩ := hrel
        by_cases hlt : 0 ≤ z
        · obtain ⟨k, rfl⟩ := Int.eq_ofNat_of_zero_le hlt
          go_wp2_with fail
          have hk8 : IntKind.i64.wrap (8 * (k : Int)) = 8 * (k : Int) := IntWalk.i64_in _ (by omega)
          have hk0 : (0 : Int) ≤ 8 * (k : Int) := by omega
          have hkn : (8 * (k : Int)).toNat = 8 * k := by omega
          go_still_tail 8, (by kernel_rfl)
          clear hk8 hk0 hkn
          rw [byteAt_wrap]
          change wpList _ _ _ _ _ wr.drew
          have hw : Wr wr.drew b v1 (l ++ bytesTo n size ((size : Int) - 1 - k).toNat) 0 := hw.touch (S := fun _ => False) (Touch.drewN wr 1) (fun h => h) (fun _ _ h => h)
          have ht : Touch (BuS b v) w wr.drew := ht.trans (Touch.drewN wr 1)
          generalize wr.drew = W at hw ht ⊢
          have hlen := bytesTo_le n size ((size : Int) - 1 - k).toNat
          have hstep := Lib.hid (bytesTo_step n size k (by omega))
          obtain ⟨ad, hbu⟩ := hw
          go_wp2_with fail
          refine (writeByte_any _ b 0 _ v1 _ _ _ writer_ne hbu lies_writer (by rw [List.length_append]; omega)).mono ?_
          rintro r w2 ⟨rfl, v2, hb2, ht2, hn2⟩
          have hW2 := Wr.of_bu hb2
          have hT2 := ht.bu hns ht2
          have hN2 := hns.trans ht.size hn2
          clear hbu hb2 ht2 hn2
          rw [List.append_assoc, hstep.out] at hW2
          go_wp2
          go_roundw
          case rel => exact ⟨(k : Int) - 1, v2, by omega, by omega, rfl, hW2, hT2, hN2⟩
          case measure => simp [intOf]
        · obtain rfl : z = -1 := by omega
          go_wp2
          go_ret
          exact ⟨rfl, v1, by rw [show ((size : Int) - 1 - -1).toNat = size from by omega] at hw; exact hw, ht, hns⟩
  exact key _ rfl

/-- May this number be written in so many bytes? -/
def okNum (n : Nat) (z : Int) : Bool := decide (1 ≤ z ∧ z ≤ 8 ∧ n < 256 ^ z.toNat)

theorem pow_div_zero (n k : Nat) : (n : Int) / 2 ^ (8 * k) = 0 ↔ n < 256 ^ k := by
  have e : (2 : Int) ^ (8 * k) = ((256 ^ k : Nat) : Int) := by
    rw [Int.pow_mul, Int.natCast_pow, show (2 : Int) ^ 8 = ((256 : Nat) : Int) from by decide]
  have e2 : (n : Int) / ((256 ^ k : Nat) : Int) = ((n / 256 ^ k : Nat) : Int) := (Int.natCast_ediv _ _).symm
  rw [e, e2]
  have hp : 0 < 256 ^ k := Nat.pow_pos (by decide)
  constructor
  · intro h
    have h0 : n / 256 ^ k = 0 := by omega
    rcases Nat.div_eq_zero_iff.1 h0 with h | h
    · omega
    · exact h
  · intro h
    rw [Nat.div_eq_of_lt h]; rfl

theorem okNum_cases (n : Nat) (z : Int) (hn : n < 18446744073709551616) :
    (z < 1 ∧ okNum n z = false) ∨ (1 ≤ z ∧ 8 < z ∧ okNum n z = false) ∨ (∃ k : Nat, z = k ∧ 1 ≤ k ∧ k ≤ 7 ∧ ((n : Int) / 2 ^ (8 * k) == 0) = okNum n z) ∨ (z = 8 ∧ okNum n z = true) := by
  by_cases h1 : z < 1
  · exact .inl ⟨h1, decide_eq_false (fun h => by omega)⟩
  · by_cases h2 : 8 < z
    · exact .inr (.inl ⟨by omega, h2, decide_eq_false (fun h => by omega)⟩)
    · obtain ⟨k, rfl⟩ := Int.eq_ofNat_of_zero_le (show 0 ≤ z by omega)
      by_cases h3 : k = 8
      · subst h3
        refine .inr (.inr (.inr ⟨rfl, decide_eq_true ⟨by omega, by omega, ?_⟩⟩))
        have e : 256 ^ ((8 : Nat) : Int).toNat = 18446744073709551616 := by decide
        omega
      · refine .inr (.inr (.inl ⟨k, rfl, by omega, by omega, ?_⟩))
        rw [Bool.eq_iff_iff, beq_iff_eq, pow_div_zero, okNum, decide_eq_true_eq, Int.toNat_natCast]
        constructor
        · intro h; exact ⟨by omega, by omega, h⟩
        · intro h; exact h.2.2

set_option maxHeartbeats 800000 in
theorem wrNum_out (b : Nat) (n : Nat) (z : Int) (w : World) (v : Value) (l : List UInt8) (bad : Int) (h : Wr w b v l bad) (hn : n < 18446744073709551616) (hbad : okNum n z = false ∨ bad ≠ 0) :
    Calls Tryd.prog 36 #[.pointer (some ⟨b, 0, none⟩), .int .u64 n, .int .i64 z] w fun e w' => e = .returned (.pointer (some ⟨b, 0, none⟩)) ∧ Wr w' b v l (flBad (okNum n z) bad 10) ∧ Touch (· = b) w w' := by
  have hf : (flBad (okNum n z) bad 10 == 0) = false := by
    rw [beq_eq_false_iff_ne]
    unfold flBad
    rcases hbad with hb | hb
    · rw [hb]; by_cases e : bad = 0
      · rw [if_pos ⟨rfl, e⟩]; decide
      · rw [if_neg (fun h => e h.2)]; exact e
    · rw [if_neg (fun h => hb h.2)]; exact hb
  clear hbad
  have hc := okNum_cases n z hn
  generalize okNum n z = ok at hf hc
  rcases hc with ⟨h1, rfl⟩ | ⟨h1, h2, rfl⟩ | ⟨k, rfl, h1, h2, h3⟩ | ⟨rfl, rfl⟩
  · go_enter Tryd.func36, Tryd.ntmps36
    go_wp2_with fail
    refine (fail_any b v l bad false 10 _ h).mono ?_
    rintro r w1 ⟨rfl, hw1, ht1⟩
    go_wp2
    go_ret
    exact ⟨rfl, hw1, ht1⟩
  · go_enter Tryd.func36, Tryd.ntmps36
    go_wp2_with fail
    refine (fail_any b v l bad false 10 _ h).mono ?_
    rintro r w1 ⟨rfl, hw1, ht1⟩
    go_wp2
    go_ret
    exact ⟨rfl, hw1, ht1⟩
  · have h8 : ((k : Int) == 8) = false := by rw [beq_eq_false_iff_ne]; omega
    go_enter Tryd.func36, Tryd.ntmps36
    go_wp2_with fail
    refine (fail_any b v l bad ok 10 _ h).mono ?_
    rintro r w1 ⟨rfl, hw1, ht1⟩
    go_wp2
    go_ret
    exact ⟨rfl, hw1, ht1⟩
  · go_enter Tryd.func36, Tryd.ntmps36
    go_wp2_with fail
    refine (fail_any b v l bad true 10 _ h).mono ?_
    rintro r w1 ⟨rfl, hw1, ht1⟩
    go_wp2
    go_ret
    exact ⟨rfl, hw1, ht1⟩

/-- What is written behind Num. -/
def wnL (l : List UInt8) (bad : Int) (n : Nat) (z : Int) : List UInt8 := if okNum n z = true ∧ bad = 0 then l ++ bytesTo n z.toNat z.toNat else l

/-- Writer.Num, of whatever number, size and state. -/
theorem wrNum_any (b : Nat) (n : Nat) (z : Int) (w : World) (v : Value) (l : List UInt8) (bad : Int) (h : Wr w b v l bad) (hn : n < 18446744073709551616) (hl : l.length ≤ 70368744177664) :
    Calls Tryd.prog 36 #[.pointer (some ⟨b, 0, none⟩), .int .u64 n, .int .i64 z] w fun e w' => e = .returned (.pointer (some ⟨b, 0, none⟩)) ∧ ∃ v', Wr w' b v' (wnL l bad n z) (flBad (okNum n z) bad 10) ∧ Touch (BuS b v) w w' ∧ NewOrSame w v v' := by
  unfold wnL
  by_cases hc : okNum n z = true ∧ bad = 0
  · rw [if_pos hc]
    obtain ⟨h1, rfl⟩ := hc
    rw [h1, flBad_ok]
    have h2 := h1
    rw [okNum, decide_eq_true_eq] at h2
    obtain ⟨g1, g2, g3⟩ := h2
    obtain ⟨k, rfl⟩ := Int.eq_ofNat_of_zero_le (show 0 ≤ z by omega)
    rw [Int.toNat_natCast] at g3 ⊢
    exact wrNum_in b n k w v l (by omega) (by omega) h hl ((pow_div_zero n k).2 g3)
  · rw [if_neg hc]
    refine (wrNum_out b n z w v l bad h hn ?_).mono fun e w' ⟨he, hw, ht⟩ => ⟨he, v, hw, ht.mono (fun _ hi => .inl (.inl hi)), .inl rfl⟩
    cases h1 : okNum n z
    · exact .inl rfl
    · exact .inr (fun e => hc ⟨h1, e⟩)

/-- What is written behind Text. -/
def wtL (l : List UInt8) (bad : Int) (s : ByteArray) : List UInt8 := if s.size ≤ 4096 ∧ bad = 0 then l ++ bytesTo s.size 2 2 ++ s.data.toList else l
def okText (s : ByteArray) : Bool := decide (s.size ≤ 4096)

theorem wrText_any (b : Nat) (s : ByteArray) (w : World) (v : Value) (l : List UInt8) (bad : Int) (h : Wr w b v l bad) (hs : s.size ≤ maxLen) (hl : l.length ≤ 35184372088832) :
    Calls Tryd.prog 37 #[.pointer (some ⟨b, 0, none⟩), .string s] w fun e w' => e = .returned (.pointer (some ⟨b, 0, none⟩)) ∧ ∃ v', Wr w' b v' (wtL l bad s) (flBad (okText s) bad 2) ∧ Touch (BuS b v) w w' ∧ NewOrSame w v v' := by
  unfold wtL okText
  unfold maxLen at hs
  by_cases hz : s.size ≤ 4096
  · by_cases hb : bad = 0
    · subst hb
      rw [if_pos ⟨hz, rfl⟩, decide_eq_true hz, flBad_ok]
      have hd : decide ((s.size : Int) ≤ 4096) = true := by simp; omega
      go_enter Tryd.func37, Tryd.ntmps37
      go_wp2_with fail
      refine (fail_any b v l 0 true 2 _ h).mono ?_
      rintro r w1 ⟨rfl, hw1, ht1⟩
      rw [flBad_ok] at hw1 ⊢
      go_wp2_with fail
      have he2 : 256 ^ (2 : Int).toNat = 65536 := by decide
      have hok : okNum s.size 2 = true := decide_eq_true ⟨by decide, by decide, by omega⟩
      clear he2
      refine (wrNum_any b s.size 2 _ v l 0 hw1 (by omega) (by omega)).mono ?_
      rintro r w2 ⟨rfl, v2, hw2, ht2, hn2⟩
      have hL : wnL l 0 s.size 2 = l ++ bytesTo s.size 2 2 := if_pos ⟨hok, rfl⟩
      rw [hok, flBad_ok, hL] at hw2
      have hlen := bytesTo_le s.size 2 2
      obtain ⟨ad, hbu⟩ := hw2
      clear hok hL
      go_wp2_with fail
      refine (writeString_any _ b 0 _ v2 _ s _ writer_ne hbu lies_writer (by rw [List.length_append]; omega)).mono ?_
      rintro r w3 ⟨rfl, v3, hb3, ht3, hn3⟩
      have hW3 := Wr.of_bu hb3
      have hT2 : Touch (BuS b v) w w2 := (ht1.mono (fun _ hi => .inl (.inl hi))).trans ht2
      have hN2 : NewOrSame w v v2 := NewOrSame.trans (.inl rfl) ht1.size hn2
      have hT3 := hT2.bu hN2 ht3
      have hN3 := hN2.trans hT2.size hn3
      clear hbu hb3 ht3 hn3 hn2 ht2
      go_wp2
      go_ret
      exact ⟨rfl, v3, hW3, hT3, hN3⟩
    · rw [if_neg (fun h => hb h.2), decide_eq_true hz]
      have hfl : flBad true bad 2 = bad := if_neg (fun h => hb h.2)
      have hbq : (bad == 0) = false := beq_eq_false_iff_ne.2 hb
      rw [hfl]
      have Hfl := Lib.hid hfl
      have hd : decide ((s.size : Int) ≤ 4096) = true := by simp; omega
      clear hfl hb
      go_enter Tryd.func37, Tryd.ntmps37
      go_wp2_with fail
      refine (fail_any b v l bad true 2 _ h).mono ?_
      rintro r w1 ⟨rfl, hw1, ht1⟩
      rw [Hfl.out] at hw1 ⊢
      go_wp2
      go_ret
      exact ⟨rfl, v, hw1, ht1.mono (fun _ hi => .inl (.inl hi)), .inl rfl⟩
  · have hfl : (flBad false bad 2 == 0) = false := by
      rw [beq_eq_false_iff_ne]; unfold flBad
      by_cases e : bad = 0
      · rw [if_pos ⟨rfl, e⟩]; decide
      · rw [if_neg (fun h => e h.2)]; exact e
    rw [if_neg (fun h => hz h.1), decide_eq_false hz]
    have hd : decide ((s.size : Int) ≤ 4096) = false := by simp; omega
    go_enter Tryd.func37, Tryd.ntmps37
    go_wp2_with fail
    refine (fail_any b v l bad false 2 _ h).mono ?_
    rintro r w1 ⟨rfl, hw1, ht1⟩
    go_wp2
    go_ret
    exact ⟨rfl, v, hw1, ht1.mono (fun _ hi => .inl (.inl hi)), .inl rfl⟩

/-- What is written behind Fixed. -/
def wfL (l : List UInt8) (bad : Int) (s : ByteArray) (z : Int) : List UInt8 := if (s.size : Int) = z ∧ bad = 0 then l ++ s.data.toList else l
def okFixed (s : ByteArray) (z : Int) : Bool := (s.size : Int) == z

/-- Writer.Bytes: the bytes, or the error. -/
def wbT (l : List UInt8) (bad : Int) : ByteArray := if bad = 0 then ⟨l.toArray⟩ else ⟨#[]⟩
theorem wrBytes_any (b : Nat) (w : World) (v : Value) (l : List UInt8) (bad : Int) (h : Wr w b v l bad) :
    Calls Tryd.prog 28 #[.pointer (some ⟨b, 0, none⟩)] w fun e w' => e = .returned (.tuple #[.string (wbT l bad), .int .i64 bad]) ∧ Touch (BuS b v) w w' := by
  have he := h.e
  unfold wbT
  by_cases hb : bad = 0
  · subst hb
    rw [if_pos rfl]
    obtain ⟨ad, hbu⟩ := h
    go_enter Tryd.func28, Tryd.ntmps28
    go_wp2_with fail
    refine (string_any _ b 0 _ v l _ hbu).mono ?_
    rintro r w3 ⟨rfl, ht3⟩
    go_wp2
    go_ret2
    exact ⟨rfl, ht3.mono (fun _ hi => .inl (.inr hi))⟩
  · rw [if_neg hb]
    have hb' : (bad != 0) = true := bne_iff_ne.2 hb
    clear hb
    go_enter Tryd.func28, Tryd.ntmps28
    go_wp2_with fail
    go_quiet (fail)
    go_wp2
    go_ret2
    exact ⟨rfl, Touch.drewN _ _⟩

end Go.Proofs.YtkjekofllfkgoaaDoor
