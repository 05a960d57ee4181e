/- item.quote: a text between quotes, what is not plain as hexadecimal. Conditions: the text is far shorter than 2^47 bytes. -/
import Derived.Test.YtkjekofllfkgoaaDoorBuilder
import Derived.StillTailTactics
import Derived.BigQuiet
import Derived.Deep.QuietTactic
namespace Go.Proofs.YtkjekofllfkgoaaDoor
open Go.RowKit

/-- A builder of the call's own, all of it in blocks from B on. -/
structure Bld (B b : Nat) (w : World) (l : List UInt8) : Prop where
  bu : ∃ cs v, Bu w 70 b 0 cs v l ∧ cs.size = 2 ∧ ∀ k, v.ownBlock = some k → B ≤ k
  le : B ≤ b
  sz : B ≤ w.heap.size

theorem lies_builder : Lies 70 2 0 := by unfold Lies; kernel_rfl
theorem builder_ne : 70 ≠ 5 := by decide

theorem bld_new (w : World) : Bld w.heap.size w.heap.size (w.alloc (.cells #[.pointer none, .slice none 0 0] 70)) [] :=
  ⟨⟨_, _, ⟨heap_alloc_new _ _, .inl rfl, rfl, World.ownsRow_nil _ _ _ _, by simp [Value.ownBlock]⟩, rfl, by simp [Value.ownBlock]⟩, Nat.le_refl _, by simp⟩

theorem bld_step {B b : Nat} {w w' : World} {v v' : Value} {cs : Array Value} {l' : List UInt8} (hv : ∀ k, v.ownBlock = some k → B ≤ k) (hB : B ≤ b) (hs : B ≤ w.heap.size) (hcs : cs.size = 2) (h' : Bu w' 70 b 0 cs v' l') (ht : Touch (BuS b v) w w') (hn : NewOrSame w v v') : Bld B b w' l' ∧ Below B w w' := by
  refine ⟨⟨⟨cs, v', h', hcs, fun k hk => ?_⟩, hB, Nat.le_trans hs ht.size⟩, ht.below (fun i hi => ?_) hs⟩
  · rcases hn with hn | hn
    · exact hv k (by rw [← hn]; exact hk)
    · exact Nat.le_trans hs (hn k hk)
  · rcases hi with rfl | hi
    · exact hB
    · exact hv i hi
theorem buCells_size (cs : Array Value) (b o : Nat) (v : Value) : (buCells cs b o v).size = cs.size := by simp [buCells]

theorem bld_byte (B b : Nat) (c : UInt8) (w : World) (l : List UInt8) (h : Bld B b w l) (hl : l.length + 1 ≤ 140737488355328) :
    Calls Tryd.prog 43 #[.pointer (some ⟨b, 0, none⟩), .int .u8 c.toNat] w fun e w' => e = .returned .nilIface ∧ Bld B b w' (l ++ [c]) ∧ Below B w w' := by
  obtain ⟨⟨cs, v, hb, hcs, hv⟩, hB, hs⟩ := h
  refine (writeByte_any _ b 0 cs v l c w builder_ne hb (by rw [hcs]; exact lies_builder) hl).mono ?_
  rintro e w' ⟨he, v', hb', ht, hn⟩
  exact ⟨he, bld_step hv hB hs (by rw [buCells_size, hcs]) hb' ht hn⟩
theorem bld_str (B b : Nat) (s : ByteArray) (w : World) (l : List UInt8) (h : Bld B b w l) (hl : l.length + s.size ≤ 140737488355328) :
    Calls Tryd.prog 44 #[.pointer (some ⟨b, 0, none⟩), .string s] w fun e w' => e = .returned (.tuple #[.int .i64 s.size, .nilIface]) ∧ Bld B b w' (l ++ s.data.toList) ∧ Below B w w' := by
  obtain ⟨⟨cs, v, hb, hcs, hv⟩, hB, hs⟩ := h
  refine (writeString_any _ b 0 cs v l s w builder_ne hb (by rw [hcs]; exact lies_builder) hl).mono ?_
  rintro e w' ⟨he, v', hb', ht, hn⟩
  exact ⟨he, bld_step hv hB hs (by rw [buCells_size, hcs]) hb' ht hn⟩
theorem bld_string (B b : Nat) (w : World) (l : List UInt8) (h : Bld B b w l) :
    Calls Tryd.prog 38 #[.pointer (some ⟨b, 0, none⟩)] w fun e w' => e = .returned (.string ⟨l.toArray⟩) ∧ Below B w w' := by
  obtain ⟨⟨cs, v, hb, hcs, hv⟩, hB, hs⟩ := h
  refine (string_any _ b 0 cs v l w hb).mono ?_
  rintro e w' ⟨he, ht⟩
  exact ⟨he, ht.below (fun i hi => hv i hi) hs⟩

/-- A digit of a byte. -/
def hexd (n : Nat) : UInt8 := [48, 49, 50, 51, 52, 53, 54, 55, 56, 57, 97, 98, 99, 100, 101, 102].getD n 0
/-- Is the byte written as hexadecimal? -/
def hexed (c : UInt8) : Bool := decide (c.toNat < 32) || decide (126 < c.toNat) || c.toNat == 34 || c.toNat == 92
def qb (c : UInt8) : List UInt8 := if hexed c then [92, 120, hexd (c.toNat / 16), hexd (c.toNat % 16)] else [c]
def qbs (l : List UInt8) : List UInt8 := (l.map qb).flatten
def quo (s : ByteArray) : List UInt8 := 34 :: (qbs s.data.toList ++ [34])

theorem hexd_at (n : Nat) (h : n < 16) : ∃ hn : n < (ByteArray.mk #[48, 49, 50, 51, 52, 53, 54, 55, 56, 57, 97, 98, 99, 100, 101, 102]).size, (ByteArray.mk #[48, 49, 50, 51, 52, 53, 54, 55, 56, 57, 97, 98, 99, 100, 101, 102])[n]'hn = hexd n := by
  have : ∀ n : Fin 16, ∃ hn : n.val < (ByteArray.mk #[48, 49, 50, 51, 52, 53, 54, 55, 56, 57, 97, 98, 99, 100, 101, 102]).size, (ByteArray.mk #[48, 49, 50, 51, 52, 53, 54, 55, 56, 57, 97, 98, 99, 100, 101, 102])[n.val]'hn = hexd n.val := by decide +kernel
  exact this ⟨n, h⟩
theorem u8_and15 (n : Nat) (h : n < 256) : bits BinOp.and IntKind.u8 (n : Int) 15 = ((n % 16 : Nat) : Int) := by
  have := bits_mask .u8 8 (by decide) (fun n h0 h1 => by rw [show (2 : Int) ^ 8 = 256 from by decide] at h1; rw [IntKind.wrap_u8]; omega) 4 (by decide) (n : Int) (by omega) (by rw [show (2 : Int) ^ 8 = 256 from by decide]; omega)
  rw [show (2 : Int) ^ 4 - 1 = 15 from by decide, show (2 : Int) ^ 4 = 16 from by decide] at this
  rw [this]; omega
theorem qb_le (c : UInt8) : (qb c).length ≤ 4 := by unfold qb; split <;> simp
theorem qbs_le (l : List UInt8) : (qbs l).length ≤ 4 * l.length := by
  induction l with
  | nil => simp [qbs]
  | cons c l ih => have := qb_le c; simp only [qbs, List.map_cons, List.flatten_cons, List.length_append, List.length_cons] at ih ⊢; omega
theorem qbs_snoc (l : List UInt8) (c : UInt8) : qbs (l ++ [c]) = qbs l ++ qb c := by simp [qbs]

theorem take_snoc' (s : ByteArray) (k : Nat) (h : k < s.size) : s.data.toList.take (k + 1) = s.data.toList.take k ++ [s[k]] := by
  rw [List.take_succ_eq_append_getElem (by simpa using h)]; rfl

set_option maxRecDepth 100000 in
set_option maxHeartbeats 800000 in
theorem quote_any (s : ByteArray) (w : World) (hs : s.size ≤ 1099511627776) :
    Calls Tryd.prog 33 #[.string s] w fun e w' => e = .returned (.string ⟨(quo s).toArray⟩) ∧ Below w.heap.size w w' := by
  have hb0 : Below w.heap.size w (w.alloc (.cells #[.pointer none, .slice none 0 0] 70)) := (Below.refl _ _).alloc (Nat.le_refl _) _
  go_enter Tryd.func33, Tryd.ntmps33
  go_wp2_with fail
  refine (bld_byte _ _ 34 _ _ (bld_new w) (by simp)).mono ?_
  rintro e w1 ⟨rfl, h1, hb1⟩
  have hb1 := hb0.trans hb1
  rw [List.nil_append, show [(34 : UInt8)] = 34 :: qbs (s.data.toList.take 0) from by simp [qbs]] at h1
  clear hb0
  go_wp2_with fail
  go_loopw [9] (fun i W => ∃ k : Nat, k ≤ s.size ∧ i = .int .i64 k ∧ Bld w.heap.size w.heap.size W (34 :: qbs (s.data.toList.take k)) ∧ Below w.heap.size w W) (fun i _ => s.size - (intOf i).toNat)
  case atStart => exact ⟨0, Nat.zero_le _, rfl, h1, hb1⟩
  case round =>
    obtain ⟨k, hk, rfl, h, hb⟩ := hrel
    have hle := qbs_le (s.data.toList.take k)
    have htl : (s.data.toList.take k).length ≤ k := List.length_take_le _ _
    by_cases hlt : k < s.size
    · have Hs := Lib.hid (show qbs (s.data.toList.take (k + 1)) = qbs (s.data.toList.take k) ++ qb s[k] by rw [take_snoc' s k hlt, qbs_snoc])
      generalize qbs (s.data.toList.take k) = q at h hle Hs
      by_cases hx : hexed s[k] = true
      · have Hq := Lib.hid (show qb s[k] = [92, 120, hexd (s[k].toNat / 16), hexd (s[k].toNat % 16)] from if_pos hx)
        have hlt256 := (s[k]).toNat_lt
        have Hd1 := Lib.hid (hexd_at (s[k].toNat / 16) (by omega))
        have Hd2 := Lib.hid (hexd_at (s[k].toNat % 16) (by omega))
        simp only [hexed, Bool.or_eq_true, decide_eq_true_eq, beq_iff_eq] at hx
        have hcs : (s[k].toNat < 32) ∨ (32 ≤ s[k].toNat ∧ 126 < s[k].toNat) ∨ (s[k].toNat = 34) ∨ (s[k].toNat = 92) := by omega
        clear hx
        have ways : (decide (((s[k]).toNat : Int) < 32) = true) ∨ (decide (((s[k]).toNat : Int) < 32) = false ∧ decide (126 < ((s[k]).toNat : Int)) = true) ∨ (decide (((s[k]).toNat : Int) < 32) = false ∧ decide (126 < ((s[k]).toNat : Int)) = false ∧ (((s[k]).toNat : Int) == 34) = true) ∨ (decide (((s[k]).toNat : Int) < 32) = false ∧ decide (126 < ((s[k]).toNat : Int)) = false ∧ (((s[k]).toNat : Int) == 34) = false ∧ (((s[k]).toNat : Int) == 92) = true) := by
          simp; omega
        clear hcs
        have hand := u8_and15 s[k].toNat hlt256
        rcases ways with x1 | ⟨x1, x2⟩ | ⟨x1, x2, x3⟩ | ⟨x1, x2, x3, x4⟩
        all_goals
          go_wp2_with fail
          refine (bld_str _ _ ⟨#[92, 120]⟩ _ _ h (by rw [show (ByteArray.mk #[92, 120]).size = 2 from rfl]; simp; omega)).mono ?_
          rintro e w2 ⟨rfl, h2, hb2⟩
          go_wp2_with fail
          refine (bld_byte _ _ _ _ _ h2 (by simp; omega)).mono ?_
          rintro e w3 ⟨rfl, h3, hb3⟩
          go_wp2_with fail
          refine (bld_byte _ _ _ _ _ h3 (by simp; omega)).mono ?_
          rintro e w4 ⟨rfl, h4, hb4⟩
          obtain ⟨_, hd1⟩ := Hd1.out
          obtain ⟨_, hd2⟩ := Hd2.out
          rw [hd1, hd2] at h4
          have hb4 := hb.trans (hb2.trans (hb3.trans hb4))
          rw [show (34 :: q ++ (ByteArray.mk #[92, 120]).data.toList ++ [hexd (s[k].toNat / 16)] ++ [hexd (s[k].toNat % 16)] : List UInt8) = 34 :: (q ++ qb s[k]) by rw [Hq.out]; simp, ← Hs.out] at h4
          clear hd1 hd2 h2 h3 hb2 hb3 hand
          go_wp2
          go_roundw
          case rel => exact ⟨k + 1, by omega, by go_num, h4, hb4⟩
          case measure => simp [intOf]; omega
      · have Hq := Lib.hid (show qb s[k] = [s[k]] from if_neg hx)
        simp only [hexed, Bool.or_eq_true, decide_eq_true_eq, beq_iff_eq, not_or] at hx
        obtain ⟨⟨⟨x1, x2⟩, x3⟩, x4⟩ := hx
        have x3' : (((s[k]).toNat : Int) == 34) = false := by rw [beq_eq_false_iff_ne]; omega
        have x4' : (((s[k]).toNat : Int) == 92) = false := by rw [beq_eq_false_iff_ne]; omega
        have x1' : decide (((s[k]).toNat : Int) < 32) = false := by simp; omega
        have x2' : decide (126 < ((s[k]).toNat : Int)) = false := by simp; omega
        clear x1 x2 x3 x4
        go_wp2_with fail
        refine (bld_byte _ _ s[k] _ _ h (by simp; omega)).mono ?_
        rintro e w2 ⟨rfl, h2, hb2⟩
        have hb2 := hb.trans hb2
        rw [List.cons_append, ← Hq.out, ← Hs.out] at h2
        clear x1' x2' x3' x4'
        go_wp2
        go_roundw
        case rel => exact ⟨k + 1, by omega, by go_num, h2, hb2⟩
        case measure => simp [intOf]; omega
    · obtain rfl : k = s.size := by omega
      have htk : s.data.toList.take s.size = s.data.toList := List.take_of_length_le (by simp)
      rw [htk] at h hle
      simp only [Array.length_toList, ByteArray.size_data] at hle
      have Htk := Lib.hid htk
      clear htk
      go_wp2_with fail
      refine (bld_byte _ _ 34 _ _ h (by simp; omega)).mono ?_
      rintro e w2 ⟨rfl, h2, hb2⟩
      go_wp2_with fail
      refine (bld_string _ _ _ _ h2).mono ?_
      rintro e w3 ⟨rfl, hb3⟩
      go_wp2
      go_ret
      exact ⟨rfl, hb.trans (hb2.trans hb3)⟩

end Go.Proofs.YtkjekofllfkgoaaDoor
