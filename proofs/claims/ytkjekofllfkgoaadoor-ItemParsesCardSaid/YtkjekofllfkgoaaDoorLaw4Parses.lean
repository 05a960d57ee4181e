/- plumboblaw04.ItemParses: true, at whatever text. Conditions: strconv's table of powers holds what its initialiser lays. -/
import Derived.Test.YtkjekofllfkgoaaDoorItAll
import Derived.Test.YtkjekofllfkgoaaDoorItBack
namespace Go.Proofs.YtkjekofllfkgoaaDoor
open Go.RowKit

theorem ext_all (s : ByteArray) : s.extract 0 s.size = s := by
  apply ByteArray.ext
  rw [ByteArray.data_extract]
  apply Array.ext'
  rw [Array.toList_extract]
  simp only [List.extract_eq_take_drop, Nat.sub_zero, List.drop_zero]
  exact List.take_of_length_le (by simp)

/-- Decode's error and the reference's. -/
theorem parse_rel (s : ByteArray) : (decR s = 0 ∧ (wy s 8 0).1 = 0 ∧ (wy s 8 0).2 = s.size ∧ ∃ t q, pItem 8 s = .ok (t, q) ∧ t.enc.length ≤ s.size ∧ t.encT = s ∧ t.encR = 0 ∧ t.dep ≤ 8) ∨
    (decR s = 2 ∧ (wy s 8 0).1 = 0 ∧ (wy s 8 0).2 < s.size) ∨ (decR s ≠ 0 ∧ (wy s 8 0).1 = decR s) := by
  have h := why_item s 8 0 (Nat.zero_le _)
  rw [ext_all] at h
  have hle := wy_le s 8 0 (Nat.zero_le _)
  cases hp : pItem 8 s with
  | error e =>
    rw [hp] at h
    obtain ⟨h1, h2⟩ := h
    have hR : decR s = e := by unfold decR; rw [hp]
    exact .inr (.inr ⟨by rw [hR]; exact h2, by rw [hR]; exact h1⟩)
  | ok r =>
    obtain ⟨t, q⟩ := r
    rw [hp] at h
    obtain ⟨h1, h2⟩ := h
    have hR : decR s = if q.size = 0 then 0 else 2 := by unfold decR; rw [hp]
    have hqs : q.size = s.size - (wy s 8 0).2 := by rw [h2, ext_size]
    by_cases hq : q.size = 0
    · rw [if_pos hq] at hR
      have hw := pItem_was 8 s t q hp
      have hq0 : q.data.toList = [] := List.eq_nil_of_length_eq_zero (by simpa using hq)
      have hb := hw.bytes
      rw [hq0, List.append_nil] at hb
      have hE : t.encR = 0 := by unfold IT.encR; rw [if_pos hw.dep]; exact hw.encE
      refine .inl ⟨hR, h1, by omega, t, q, rfl, ?_, ?_, hE, hw.dep⟩
      · rw [← hb]; simp
      · unfold IT.encT; rw [if_pos hE, ← hb]
    · rw [if_neg hq] at hR
      exact .inr (.inl ⟨hR, h1, by omega⟩)

set_option maxRecDepth 100000 in
set_option maxHeartbeats 2000000 in
theorem itemParses_any (s0 : ByteArray) (_hs : s0.size ≤ maxLen) (w : World) (hp : Pow w) :
    Calls Tryd.prog 4 #[.string s0] w fun e w' => e = .returned (.bool true) ∧ Below w.heap.size w w' := by
  have HP := Lib.hid hp
  obtain ⟨s, hs⟩ : ∃ s, s = s0.extract 0 (min (s0.size : Int) 300).toNat := ⟨_, rfl⟩
  have hsz : s.size ≤ 300 := by rw [hs, ByteArray.size_extract]; omega
  have Hs := Lib.hid hs
  have hrel := Lib.hid (parse_rel s)
  have Hwhy := Lib.hid (fun W => why_any s (by omega) 8 (by decide) 0 W (Nat.zero_le _))
  clear hp hs
  go_enter Tryd.func4, Tryd.ntmps4
  go_wp2_with fail
  refine (speaks4_any _ HP.out).mono ?_
  rintro e w1 ⟨rfl, hb1⟩
  go_wp2_with fail
  have s1 := hb1.size
  rw [← Hs.out]
  refine (decode_any s _).mono ?_
  rintro e w2 ⟨hb2, hdec⟩
  have s2 := hb2.size
  have hb2 := hb1.trans (hb2.mono s1)
  generalize wy s 8 0 = r at hrel Hwhy
  obtain ⟨r1, r2⟩ := r
  rcases hdec with ⟨t, v, q, hpi, hR, rfl, hi⟩ | ⟨hR, rfl⟩
  · rcases hrel.out with ⟨_, h1, h2, t', q', hpi', hlen, hT, hE, hd⟩ | ⟨h, _, _⟩ | ⟨h, _⟩
    · rw [hpi] at hpi'
      injection hpi' with hpi'
      injection hpi' with e1 _
      subst e1
      simp only at h1 h2
      subst h1 h2
      obtain ⟨T, u, rfl⟩ := hi.one
      have HT := Lib.hid hT
      have HE := Lib.hid hE
      clear hR hpi hT hE hrel
      go_wp2_with fail
      refine (Hwhy.out _).mono ?_
      rintro e w3 ⟨rfl, n, rfl⟩
      have hi3 : Itm (w2.drewN n) (w1.heap.size ≤ ·) (.iface T u) t := hi.touch (Touch.drewN (S := fun _ => False) w2 n) (fun _ _ _ h => h)
      have hlt : decide (s.size < s.size) = false := decide_eq_false (by omega)
      go_wp2_with fail
      refine (itEncode_any t _ _ _ hi3 (by omega) (by omega)).mono ?_
      rintro e w4 ⟨rfl, hb4⟩
      rw [HT.out, HE.out]
      have hb4 := (below_drewN hb2 n).trans (hb4.mono (by have := hb2.size; simpa using this))
      go_wp2
      go_ret
      exact ⟨rfl, hb4⟩
    · rw [hR] at h; cases h
    · exact absurd hR h
  · rcases hrel.out with ⟨h, _⟩ | ⟨h2, h1, h3⟩ | ⟨_, h1⟩
    · exact absurd h hR
    · simp only at h1 h3
      subst h1
      rw [h2]
      clear hR h2 hrel
      have hlt : decide (r2 < s.size) = true := decide_eq_true h3
      go_wp2_with fail
      refine (Hwhy.out _).mono ?_
      rintro e w3 ⟨rfl, n, rfl⟩
      go_wp2
      go_ret
      exact ⟨rfl, below_drewN hb2 n⟩
    · simp only at h1
      rw [← h1] at hR ⊢
      have hne : (r1 == 0) = false := beq_eq_false_iff_ne.2 hR
      have hne2 : (r1 != 0) = true := bne_iff_ne.2 hR
      have hself : (r1 != r1) = false := by simp
      clear hR h1 hrel
      go_wp2_with fail
      refine (Hwhy.out _).mono ?_
      rintro e w3 ⟨rfl, n, rfl⟩
      go_wp2
      go_ret
      exact ⟨rfl, below_drewN hb2 n⟩

end Go.Proofs.YtkjekofllfkgoaaDoor
