/- What is read as an item has its bytes again; the reference's Why tells of the same errors. Conditions: none of a program. -/
import Derived.Test.YtkjekofllfkgoaaDoorItParse
import Derived.Test.YtkjekofllfkgoaaDoorRefWhy
namespace Go.Proofs.YtkjekofllfkgoaaDoor
open Go.RowKit

theorem numTo_div (s : ByteArray) (j m : Nat) : numTo s (j + m) / 256 ^ m = numTo s j := by
  induction m with
  | zero => simp
  | succ m ih =>
    rw [← Nat.add_assoc, numTo, Nat.pow_succ, Nat.mul_comm (256 ^ m) 256, ← Nat.div_div_eq_div_mul]
    have := (s.data.toList.getD (j + m) 0).toNat_lt
    rw [show (256 * numTo s (j + m) + (s.data.toList.getD (j + m) 0).toNat) / 256 = numTo s (j + m) from by omega, ih]
theorem byte_back (s : ByteArray) (size j : Nat) (h : j < size) : byteAt (numTo s size) (size - 1 - j) = s.data.toList.getD j 0 := by
  have h1 := numTo_div s (j + 1) (size - 1 - j)
  rw [show j + 1 + (size - 1 - j) = size from by omega] at h1
  unfold byteAt
  rw [h1, numTo]
  apply UInt8.toNat_inj.1
  rw [UInt8.toNat_ofNat']
  have := (s.data.toList.getD j 0).toNat_lt
  omega
theorem bytes_back (s : ByteArray) (size : Nat) (hs : size ≤ s.size) : ∀ j, j ≤ size → bytesTo (numTo s size) size j = s.data.toList.take j := by
  intro j
  induction j with
  | zero => intro _; simp [bytesTo]
  | succ j ih =>
    intro hj
    have hlt : j < s.data.toList.length := by simp; omega
    rw [bytesTo, ih (by omega), byte_back s size j (by omega), List.take_add_one, List.getD_eq_getElem?_getD, List.getElem?_eq_getElem hlt]
    rfl

theorem nm_at (s : ByteArray) (z : Nat) (h1 : 1 ≤ z) (h8 : z ≤ 8) (h : z ≤ s.size) : nmN s 0 z = numTo s z ∧ nmS s 0 z = s.extract z s.size := by
  obtain ⟨a, b, _⟩ := num_fit s z h1 h8 h
  refine ⟨?_, b⟩
  rw [a, ByteArray.size_extract, show min z s.size - 0 = z from by omega]
  exact numTo_pre s z z (Nat.le_refl _) h
theorem ext_list (s : ByteArray) (a : Nat) : (s.extract a s.size).data.toList = s.data.toList.drop a := by
  rw [ByteArray.data_extract, Array.toList_extract]
  simp only [List.extract_eq_take_drop]
  exact List.take_of_length_le (by simp)
theorem read_back (s : ByteArray) (z : Nat) (h1 : 1 ≤ z) (h8 : z ≤ 8) (h : z ≤ s.size) : s.data.toList = bytesTo (nmN s 0 z) z z ++ (nmS s 0 z).data.toList := by
  obtain ⟨a, b⟩ := nm_at s z h1 h8 h
  rw [a, b, bytes_back s z h z (Nat.le_refl _), ext_list, List.take_append_drop]

theorem u64_s64 (v : Nat) (h : v < 18446744073709551616) : u64n (s64 v) = v ∧ -9223372036854775808 ≤ s64 v ∧ s64 v ≤ 9223372036854775807 := by
  unfold u64n s64 wrap64
  refine ⟨?_, ?_, ?_⟩ <;> omega

/-- What is known of an item that was read. -/
structure Was (d : Nat) (s : ByteArray) (t : IT) (q : ByteArray) : Prop where
  bytes : s.data.toList = t.enc ++ q.data.toList
  dep : t.dep ≤ d
  encE : t.encE = 0
  wf : t.wf

theorem text_was (s : ByteArray) (h : txE s 0 = 0) : s.data.toList = bytesTo (txT s 0).size 2 2 ++ (txT s 0).data.toList ++ (txS s 0).data.toList ∧ (txT s 0).size ≤ 4096 := by
  by_cases h2 : 2 ≤ s.size
  · by_cases h4 : len2 s ≤ 4096
    · by_cases hl : 2 + len2 s ≤ s.size
      · obtain ⟨a, b, _⟩ := text_fit s h2 h4 hl
        have hn : nmN s 0 2 = len2 s := (num_fit s 2 (by decide) (by decide) h2).1
        have hsz : (txT s 0).size = len2 s := by rw [a, ByteArray.size_extract]; omega
        refine ⟨?_, by omega⟩
        have hrb := read_back s 2 (by decide) (by decide) h2
        rw [show nmN s 0 ((2 : Nat) : Int) = len2 s from hn, show nmS s 0 ((2 : Nat) : Int) = s.extract 2 s.size from (nm_at s 2 (by decide) (by decide) h2).2, ext_list] at hrb
        rw [hsz, a, b, ext_list, List.append_assoc, ByteArray.data_extract, Array.toList_extract]
        refine hrb.trans (congrArg (bytesTo (len2 s) 2 2 ++ ·) ?_)
        simp only [List.extract_eq_take_drop]
        rw [show 2 + len2 s - 2 = len2 s from by omega, ← List.drop_drop, List.take_append_drop]
      · rw [(text_short s h2 h4 (by omega)).2] at h; cases h
    · rw [(text_form s h2 (by omega)).2] at h; cases h
  · rw [(text_short2 s (by omega)).2] at h; cases h

theorem pMany_was {p : ByteArray → Except Int (IT × ByteArray)} {d : Nat} (hp : ∀ s t q, p s = .ok (t, q) → Was d s t q) : ∀ (n : Nat) (s : ByteArray) (l : List IT) (q : ByteArray), pMany p n s = .ok (l, q) →
    s.data.toList = encL l ++ q.data.toList ∧ l.length = n ∧ depL l ≤ d ∧ encEL l = 0 ∧ wfIL l := by
  intro n
  induction n with
  | zero =>
    intro s l q h
    rw [pMany] at h
    injection h with h
    injection h with h1 h2
    subst h1 h2
    refine ⟨by rw [encL]; rfl, rfl, by rw [depL]; omega, by rw [encEL], by rw [wfIL]; trivial⟩
  | succ n ih =>
    intro s l q h
    rw [pMany] at h
    cases hps : p s with
    | error e => rw [hps] at h; cases h
    | ok r =>
      obtain ⟨t, s'⟩ := r
      rw [hps] at h
      dsimp only at h
      cases hpm : pMany p n s' with
      | error e => rw [hpm] at h; cases h
      | ok r =>
        obtain ⟨l', q'⟩ := r
        rw [hpm] at h
        dsimp only at h
        injection h with h
        injection h with h1 h2
        subst h1 h2
        obtain ⟨i1, i2, i3, i4, i5⟩ := ih s' l' q' hpm
        have hw := hp s t s' hps
        refine ⟨by rw [hw.bytes, i1, encL, List.append_assoc], by simp [i2], by rw [depL]; have := hw.dep; omega, by rw [encEL, if_pos hw.encE]; exact i4, by rw [wfIL]; exact ⟨hw.wf, i5⟩⟩

theorem pItem_was (d : Nat) : ∀ (s : ByteArray) (t : IT) (q : ByteArray), pItem d s = .ok (t, q) → Was d s t q := by
  induction d with
  | zero => intro s t q h; rw [pItem] at h; cases h
  | succ d ih =>
    intro s t q h
    rw [pItem] at h
    by_cases h1 : s.size < 1
    · rw [if_pos h1] at h; cases h
    rw [if_neg h1] at h
    have hb := read_back s 1 (by decide) (by decide) (by omega)
    have hk : ∀ k, nmN s 0 1 = k → bytesTo k 1 1 ++ (nmS s 0 1).data.toList = s.data.toList := fun k hk => by rw [hb, show nmN s 0 ((1 : Nat) : Int) = k from hk]; rfl
    clear hb
    generalize nmS s 0 1 = s1 at h hk
    by_cases k1 : nmN s 0 1 = 1
    · rw [if_pos k1] at h
      by_cases h8 : s1.size < 8
      · rw [if_pos h8] at h; cases h
      rw [if_neg h8] at h
      injection h with h
      injection h with e1 e2
      have hb8 := read_back s1 8 (by decide) (by decide) (by omega)
      have hv : nmN s1 0 8 < 18446744073709551616 := by
        rw [show nmN s1 0 8 = numTo s1 8 from (nm_at s1 8 (by decide) (by decide) (by omega)).1]
        exact numTo_bd s1 8
      obtain ⟨u1, u2, u3⟩ := u64_s64 _ hv
      subst e1 e2
      refine ⟨?_, by rw [IT.dep]; omega, by rw [IT.encE], by rw [IT.wf]; exact ⟨u2, u3⟩⟩
      rw [← hk 1 k1, IT.enc, u1, hb8]
      simp [bytesTo]
      rfl
    rw [if_neg k1] at h
    by_cases k2 : nmN s 0 1 = 2
    · rw [if_pos k2] at h
      by_cases he : txE s1 0 = 0
      · rw [if_pos he] at h
        injection h with h
        injection h with e1 e2
        obtain ⟨a, b⟩ := text_was s1 he
        subst e1 e2
        refine ⟨?_, by rw [IT.dep]; omega, by rw [IT.encE, if_pos b], by rw [IT.wf]; trivial⟩
        rw [← hk 2 k2, IT.enc, a]
        simp [bytesTo]
        rfl
      · rw [if_neg he] at h; cases h
    rw [if_neg k2] at h
    by_cases k3 : nmN s 0 1 = 3
    · rw [if_pos k3] at h
      unfold pList at h
      by_cases h2 : s1.size < 2
      · rw [if_pos h2] at h; cases h
      rw [if_neg h2] at h
      by_cases h256 : 256 < nmN s1 0 2
      · rw [if_pos h256] at h; cases h
      rw [if_neg h256] at h
      have hb2 := read_back s1 2 (by decide) (by decide) (by omega)
      cases hpm : pMany (pItem d) (nmN s1 0 2) (nmS s1 0 2) with
      | error e => rw [hpm] at h; cases h
      | ok r =>
        obtain ⟨l, q'⟩ := r
        rw [hpm] at h
        dsimp only at h
        injection h with h
        injection h with e1 e2
        obtain ⟨i1, i2, i3, i4, i5⟩ := pMany_was ih _ _ _ _ hpm
        subst e1 e2
        refine ⟨?_, by rw [IT.dep]; omega, by rw [IT.encE, if_pos (by omega)]; exact i4, by rw [IT.wf]; exact i5⟩
        rw [← hk 3 k3, IT.enc, hb2, show (nmS s1 0 ((2 : Nat) : Int)).data.toList = _ from i1, show nmN s1 0 ((2 : Nat) : Int) = l.length from i2.symm]
        simp [bytesTo]
        rfl
    · rw [if_neg k3] at h; cases h

/-! ### The reference's Why -/
theorem ext_ext (s : ByteArray) (k z : Nat) : (s.extract k s.size).extract z (s.extract k s.size).size = s.extract (k + z) s.size := extract_rest s k z
theorem ext_size (s : ByteArray) (k : Nat) : (s.extract k s.size).size = s.size - k := by rw [ByteArray.size_extract]; omega
theorem ext_bt (s : ByteArray) (k j : Nat) : ((s.extract k s.size).data.toList.getD j 0).toNat = bt s (k + j) := by
  unfold bt
  rw [ext_list, List.getD_eq_getElem?_getD, List.getElem?_drop, ← List.getD_eq_getElem?_getD]
theorem ext_nm1 (s : ByteArray) (k : Nat) (h : k < s.size) : nmN (s.extract k s.size) 0 1 = bt s k ∧ nmS (s.extract k s.size) 0 1 = s.extract (k + 1) s.size := by
  obtain ⟨a, b⟩ := nm_at (s.extract k s.size) 1 (by decide) (by decide) (by rw [ext_size]; omega)
  refine ⟨?_, by rw [show nmS (s.extract k s.size) 0 1 = _ from b, ext_ext]⟩
  rw [show nmN (s.extract k s.size) 0 1 = _ from a, numTo, numTo, ext_bt]; simp
theorem ext_nm2 (s : ByteArray) (k : Nat) (h : k + 2 ≤ s.size) : nmN (s.extract k s.size) 0 2 = 256 * bt s k + bt s (k + 1) ∧ nmS (s.extract k s.size) 0 2 = s.extract (k + 2) s.size := by
  obtain ⟨a, b⟩ := nm_at (s.extract k s.size) 2 (by decide) (by decide) (by rw [ext_size]; omega)
  refine ⟨?_, by rw [show nmS (s.extract k s.size) 0 2 = _ from b, ext_ext]⟩
  rw [show nmN (s.extract k s.size) 0 2 = _ from a, numTo, numTo, numTo, ext_bt, ext_bt]; simp

def Rel {α : Type} (s : ByteArray) (r : Except Int (α × ByteArray)) (x : Int × Nat) : Prop := match r with
  | .ok (_, q) => x.1 = 0 ∧ q = s.extract x.2 s.size
  | .error e => x.1 = e ∧ e ≠ 0

theorem many_rel {s : ByteArray} {p : ByteArray → Except Int (IT × ByteArray)} {f : Nat → Int × Nat} (hp : ∀ k, k ≤ s.size → Rel s (p (s.extract k s.size)) (f k)) (hf : ∀ k, k ≤ s.size → (f k).2 ≤ s.size) :
    ∀ n k, k ≤ s.size → Rel s (pMany p n (s.extract k s.size)) (wyMany f n k) := by
  intro n
  induction n with
  | zero => intro k _; exact ⟨rfl, rfl⟩
  | succ n ih =>
    intro k hk
    have h := hp k hk
    have hl := hf k hk
    rw [pMany, wyMany]
    cases hps : p (s.extract k s.size) with
    | error e =>
      rw [hps] at h
      obtain ⟨h1, h2⟩ := h
      rw [if_neg (by rw [h1]; exact h2)]
      exact ⟨h1, h2⟩
    | ok r =>
      obtain ⟨t, q⟩ := r
      rw [hps] at h
      obtain ⟨h1, h2⟩ := h
      subst h2
      rw [if_pos h1]
      have hi := ih (f k).2 hl
      dsimp only
      revert hi
      cases pMany p n (s.extract (f k).2 s.size) with
      | error e => exact fun h => h
      | ok r => exact fun h => h

set_option maxHeartbeats 800000 in
theorem why_item (s : ByteArray) (d : Nat) : ∀ k, k ≤ s.size → Rel s (pItem d (s.extract k s.size)) (wy s d k) := by
  induction d with
  | zero => intro k _; exact ⟨rfl, by decide⟩
  | succ d ih =>
    intro k hk
    rw [wy, pItem]
    unfold wyBody
    have hsz := ext_size s k
    by_cases h1 : s.size ≤ k
    · rw [if_pos h1, if_pos (by omega)]; exact ⟨rfl, by decide⟩
    rw [if_neg h1, if_neg (by omega)]
    obtain ⟨a, b⟩ := ext_nm1 s k (by omega)
    rw [a, b]
    have hsz1 := ext_size s (k + 1)
    by_cases k1 : bt s k = 1
    · rw [if_pos k1, if_pos k1]
      by_cases h8 : s.size - (k + 1) < 8
      · rw [if_pos h8, if_pos (by omega)]; exact ⟨rfl, by decide⟩
      · rw [if_neg h8, if_neg (by omega)]
        refine ⟨rfl, ?_⟩
        rw [show nmS (s.extract (k + 1) s.size) 0 8 = _ from (nm_at (s.extract (k + 1) s.size) 8 (by decide) (by decide) (by omega)).2, ext_ext]
    rw [if_neg k1, if_neg k1]
    by_cases k2 : bt s k = 2
    · rw [if_pos k2, if_neg (show ¬ (bt s k ≠ 2 ∧ bt s k ≠ 3) from fun h => h.1 k2)]
      unfold wyLen
      rw [if_pos k2]
      by_cases h2 : s.size - (k + 1) < 2
      · rw [if_pos h2, (text_short2 (s.extract (k + 1) s.size) (by omega)).2, if_neg (by decide)]; exact ⟨rfl, by decide⟩
      rw [if_neg h2]
      have hl2 : len2 (s.extract (k + 1) s.size) = 256 * bt s (k + 1) + bt s (k + 1 + 1) := by
        rw [← (ext_nm2 s (k + 1) (by omega)).1]
        exact ((num_fit (s.extract (k + 1) s.size) 2 (by decide) (by decide) (by omega)).1).symm
      rw [← hl2]
      clear hl2
      generalize hL : len2 (s.extract (k + 1) s.size) = L
      by_cases h4 : 4096 < L
      · rw [if_pos h4, (text_form (s.extract (k + 1) s.size) (by omega) (by omega)).2, if_neg (by decide)]; exact ⟨rfl, by decide⟩
      rw [if_neg h4]
      by_cases h5 : s.size - (k + 1 + 2) < L
      · rw [if_pos h5, (text_short (s.extract (k + 1) s.size) (by omega) (by omega) (by omega)).2, if_neg (by decide)]; exact ⟨rfl, by decide⟩
      · rw [if_neg h5]
        obtain ⟨_, b2, c2⟩ := text_fit (s.extract (k + 1) s.size) (by omega) (by omega) (by omega)
        rw [c2, if_pos rfl]
        refine ⟨rfl, ?_⟩
        show txS (s.extract (k + 1) s.size) 0 = s.extract (k + 1 + 2 + L) s.size
        rw [b2, ext_ext, hL, Nat.add_assoc (k + 1) 2]
    rw [if_neg k2]
    by_cases k3 : bt s k = 3
    · rw [if_pos k3, if_neg (show ¬ (bt s k ≠ 2 ∧ bt s k ≠ 3) from fun h => h.2 k3)]
      unfold pList wyLen
      rw [if_neg k2]
      by_cases h2 : s.size - (k + 1) < 2
      · rw [if_pos h2, if_pos (by omega)]; exact ⟨rfl, by decide⟩
      rw [if_neg h2, if_neg (by omega)]
      obtain ⟨a2, b2⟩ := ext_nm2 s (k + 1) (by omega)
      rw [a2, b2]
      by_cases h256 : 256 < 256 * bt s (k + 1) + bt s (k + 1 + 1)
      · rw [if_pos h256, if_pos h256]; exact ⟨rfl, by decide⟩
      rw [if_neg h256, if_neg h256]
      have h := many_rel ih (wy_le s d) (256 * bt s (k + 1) + bt s (k + 1 + 1)) (k + 1 + 2) (by omega)
      revert h
      cases pMany (pItem d) (256 * bt s (k + 1) + bt s (k + 1 + 1)) (s.extract (k + 1 + 2) s.size) with
      | error e => exact fun h => h
      | ok r => exact fun h => h
    · rw [if_neg k3, if_pos ⟨k2, k3⟩]; exact ⟨rfl, by decide⟩

end Go.Proofs.YtkjekofllfkgoaaDoor
