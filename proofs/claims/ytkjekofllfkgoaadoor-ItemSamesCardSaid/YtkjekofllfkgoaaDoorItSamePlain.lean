/- Two items of one text, of one kind each, are the same; two items of the same bytes are the same. Conditions: none of a program. -/
import Derived.Test.YtkjekofllfkgoaaDoorItAll
namespace Go.Proofs.YtkjekofllfkgoaaDoor
open Go.RowKit

def dval (l : List UInt8) : Nat := l.foldl (fun a c => 10 * a + (c.toNat - 48)) 0
theorem decDigits_val : ∀ (n u : Nat), u ≤ n → dval (Lib.decDigits u) = u := by
  intro n
  induction n with
  | zero => intro u h; obtain rfl : u = 0 := by omega
            rw [Lib.decDigits, dif_pos (by decide)]; rfl
  | succ n ih =>
    intro u h
    rw [Lib.decDigits]
    split
    · next h10 =>
      have e : (UInt8.ofNat (48 + u)).toNat = 48 + u := by rw [UInt8.toNat_ofNat']; omega
      simp only [dval, List.foldl_cons, List.foldl_nil, e]; omega
    · next h10 =>
      have e : (UInt8.ofNat (48 + u % 10)).toNat = 48 + u % 10 := by rw [UInt8.toNat_ofNat']; omega
      have h1 := ih (u / 10) (by omega)
      unfold dval at h1 ⊢
      rw [List.foldl_append, h1]
      simp only [List.foldl_cons, List.foldl_nil, e]; omega
theorem decDigits_chars : ∀ (n u : Nat), u ≤ n → ∀ c ∈ Lib.decDigits u, 48 ≤ c.toNat ∧ c.toNat ≤ 57 := by
  intro n
  induction n with
  | zero => intro u h c hc; obtain rfl : u = 0 := by omega
            rw [Lib.decDigits, dif_pos (by decide)] at hc; simp at hc; subst hc; decide
  | succ n ih =>
    intro u h c hc
    rw [Lib.decDigits] at hc
    split at hc
    · rw [List.mem_singleton] at hc; subst hc; rw [UInt8.toNat_ofNat']; omega
    · rcases List.mem_append.1 hc with hc | hc
      · exact ih (u / 10) (by omega) c hc
      · rw [List.mem_singleton] at hc; subst hc; rw [UInt8.toNat_ofNat']; omega
theorem decDigits_head (u : Nat) : ∃ c r, Lib.decDigits u = c :: r ∧ 48 ≤ c.toNat ∧ c.toNat ≤ 57 := by
  have h := decDigits_chars u u (Nat.le_refl _)
  cases hd : Lib.decDigits u with
  | nil =>
    rw [Lib.decDigits] at hd
    split at hd
    · cases hd
    · simp at hd
  | cons c r => rw [hd] at h; exact ⟨c, r, rfl, h c List.mem_cons_self⟩
theorem decDigits_inj {a b : Nat} (h : Lib.decDigits a = Lib.decDigits b) : a = b := by
  have h1 := decDigits_val a a (Nat.le_refl _)
  have h2 := decDigits_val b b (Nat.le_refl _)
  rw [h] at h1; omega
/-- The numeral begins with a digit or a sign. -/
theorem itoa_head (n : Int) : ∃ c r, Lib.itoa n = c :: r ∧ (c.toNat = 45 ∨ (48 ≤ c.toNat ∧ c.toNat ≤ 57)) := by
  unfold Lib.itoa
  split
  · exact ⟨45, _, rfl, .inl rfl⟩
  · obtain ⟨c, r, h, hc⟩ := decDigits_head n.toNat
    exact ⟨c, r, h, .inr hc⟩
theorem itoa_inj {a b : Int} (h : Lib.itoa a = Lib.itoa b) : a = b := by
  unfold Lib.itoa at h
  by_cases ha : a < 0
  · rw [if_pos ha] at h
    by_cases hb : b < 0
    · rw [if_pos hb] at h
      injection h with _ h
      have := decDigits_inj h
      omega
    · rw [if_neg hb] at h
      obtain ⟨c, r, h2, hc, _⟩ := decDigits_head b.toNat
      rw [h2] at h
      injection h with h _
      subst h
      exact absurd hc (by decide)
  · rw [if_neg ha] at h
    by_cases hb : b < 0
    · rw [if_pos hb] at h
      obtain ⟨c, r, h2, hc, _⟩ := decDigits_head a.toNat
      rw [h2] at h
      injection h with h _
      subst h
      exact absurd hc (by decide)
    · rw [if_neg hb] at h
      have := decDigits_inj h
      omega

theorem hexd_inj : ∀ a b : Fin 16, hexd a.val = hexd b.val → a = b := by decide +kernel
theorem qb_inj (c d : UInt8) (x y : List UInt8) (h : qb c ++ x = qb d ++ y) : c = d ∧ x = y := by
  have h92 : ∀ e : UInt8, e.toNat = 92 → hexed e = true := fun e he => by simp [hexed, he]
  unfold qb at h
  by_cases hc : hexed c = true
  · rw [if_pos hc] at h
    by_cases hd : hexed d = true
    · rw [if_pos hd] at h
      simp only [List.cons_append, List.nil_append, List.cons.injEq, true_and] at h
      obtain ⟨h1, h2, h3⟩ := h
      have hcl := c.toNat_lt
      have hdl := d.toNat_lt
      have e1 := hexd_inj ⟨c.toNat / 16, by omega⟩ ⟨d.toNat / 16, by omega⟩ h1
      have e2 := hexd_inj ⟨c.toNat % 16, by omega⟩ ⟨d.toNat % 16, by omega⟩ h2
      have e1 : c.toNat / 16 = d.toNat / 16 := congrArg Fin.val e1
      have e2 : c.toNat % 16 = d.toNat % 16 := congrArg Fin.val e2
      exact ⟨UInt8.toNat_inj.1 (by omega), h3⟩
    · rw [if_neg hd] at h
      simp only [List.cons_append, List.nil_append, List.cons.injEq] at h
      exact absurd (h92 d (by rw [← h.1]; rfl)) hd
  · rw [if_neg hc] at h
    by_cases hd : hexed d = true
    · rw [if_pos hd] at h
      simp only [List.cons_append, List.nil_append, List.cons.injEq] at h
      exact absurd (h92 c (by rw [h.1]; rfl)) hc
    · rw [if_neg hd] at h
      simp only [List.cons_append, List.nil_append, List.cons.injEq] at h
      exact h
theorem qbs_cons (c : UInt8) (l : List UInt8) : qbs (c :: l) = qb c ++ qbs l := by simp [qbs]
theorem qb_ne (c : UInt8) : qb c ≠ [] := by unfold qb; split <;> simp
theorem qbs_inj : ∀ (a b : List UInt8), qbs a = qbs b → a = b
  | [], [], _ => rfl
  | [], d :: b, h => by rw [qbs_cons] at h; have := qb_ne d; simp [qbs] at h; exact absurd h.1 this
  | c :: a, [], h => by rw [qbs_cons] at h; have := qb_ne c; simp [qbs] at h; exact absurd h.1 this
  | c :: a, d :: b, h => by
    rw [qbs_cons, qbs_cons] at h
    obtain ⟨rfl, h2⟩ := qb_inj c d _ _ h
    rw [qbs_inj a b h2]
theorem quo_inj {a b : ByteArray} (h : quo a = quo b) : a = b := by
  unfold quo at h
  injection h with _ h
  have := qbs_inj _ _ (List.append_cancel_right h)
  apply ByteArray.ext
  exact Array.ext' this

/-- The bytes tell the item. -/
theorem enc_inj {t u : IT} (ht : Fine t) (hu : Fine u) (h : t.enc = u.enc) : t = u := by
  have h1 := pItem_back 8 t [] ht.dep (good_encE t ht.good) (good_wf t ht.good)
  have h2 := pItem_back 8 u [] hu.dep (good_encE u hu.good) (good_wf u hu.good)
  rw [h, h2] at h1
  injection h1 with h1
  injection h1 with h1 _
  exact h1.symm

/-- What is no list is the same just where it is of depth one and of the same text. -/
theorem leaf_same {t u : IT} (ht : t.dep = 1) (hl : ∀ l, t ≠ .list l) : (u.dep = 1 ∧ t.shw = u.shw) ↔ t = u := by
  constructor
  · rintro ⟨h1, h2⟩
    match t, u, hl with
    | .num a, .num b, _ => rw [IT.shw, IT.shw] at h2; rw [itoa_inj h2]
    | .text a, .text b, _ => rw [IT.shw, IT.shw] at h2; rw [quo_inj h2]
    | .num a, .text b, _ =>
      rw [IT.shw, IT.shw] at h2
      obtain ⟨c, r, h3, hc⟩ := itoa_head a
      rw [h3] at h2; unfold quo at h2; injection h2 with h2 _; subst h2
      exact absurd hc (by decide)
    | .text b, .num a, _ =>
      rw [IT.shw, IT.shw] at h2
      obtain ⟨c, r, h3, hc⟩ := itoa_head a
      rw [h3] at h2; unfold quo at h2; injection h2 with h2 _; subst h2
      exact absurd hc (by decide)
    | .num a, .list l, _ =>
      rw [IT.shw, IT.shw] at h2
      obtain ⟨c, r, h3, hc⟩ := itoa_head a
      rw [h3] at h2; injection h2 with h2 _; subst h2
      exact absurd hc (by decide)
    | .text a, .list l, _ =>
      rw [IT.shw, IT.shw] at h2
      unfold quo at h2; injection h2 with h2 _
      exact absurd h2 (by decide)
    | .list l, _, hl => exact absurd rfl (hl l)
  · rintro rfl; exact ⟨ht, rfl⟩

end Go.Proofs.YtkjekofllfkgoaaDoor
