/- plumboblaw04.made, as a plain function of the nodes; how great an item it makes. Conditions: none of a program. -/
import Derived.Test.YtkjekofllfkgoaaDoorItShow
import Derived.Test.YtkjekofllfkgoaaDoorItEnc
import Derived.Test.YtkjekofllfkgoaaDoorNodes
namespace Go.Proofs.YtkjekofllfkgoaaDoor
open Go.RowKit

def t30 (s : ByteArray) : ByteArray := s.extract 0 (min s.size 30)
theorem t30_size (s : ByteArray) : (t30 s).size ≤ 30 := by unfold t30; simp; omega

def mkL (f : Nat → IT × Nat) (l : List NdV) : Nat → Nat → List IT × Nat
  | 0, k => ([], k)
  | n + 1, k => match l[k]? with
    | none => ([], k)
    | some x => if x.kind % 4 = 3 then ([], k) else ((f k).1 :: (mkL f l n (f k).2).1, (mkL f l n (f k).2).2)
def mk (l : List NdV) : Nat → Nat → IT × Nat
  | 0, k => (.num 0, k)
  | d + 1, k => match l[k]? with
    | none => (.num 0, k)
    | some x => if x.kind % 4 = 1 then (.text (t30 x.text), k + 1)
      else if x.kind % 4 = 2 ∧ 1 ≤ d then (.list (mkL (mk l d) l l.length (k + 1)).1, (mkL (mk l d) l l.length (k + 1)).2 + 1)
      else (.num x.n, k + 1)

theorem mk_none {l : List NdV} {k : Nat} (d : Nat) (h : l.length ≤ k) : mk l d k = (.num 0, k) := by
  cases d with
  | zero => rfl
  | succ d => rw [mk, List.getElem?_eq_none h]
theorem mk_text {l : List NdV} {k d : Nat} {x : NdV} (h : l[k]? = some x) (h1 : x.kind % 4 = 1) : mk l (d + 1) k = (.text (t30 x.text), k + 1) := by
  rw [mk, h]; simp [h1]
theorem mk_list {l : List NdV} {k d : Nat} {x : NdV} (h : l[k]? = some x) (h1 : x.kind % 4 = 2) (hd : 1 ≤ d) : mk l (d + 1) k = (.list (mkL (mk l d) l l.length (k + 1)).1, (mkL (mk l d) l l.length (k + 1)).2 + 1) := by
  rw [mk, h]; simp [h1, hd]
theorem mk_num {l : List NdV} {k d : Nat} {x : NdV} (h : l[k]? = some x) (h1 : x.kind % 4 ≠ 1) (hd : x.kind % 4 = 2 → d = 0) : mk l (d + 1) k = (.num x.n, k + 1) := by
  rw [mk, h]; simp [h1]; intro h; have := hd h; omega
theorem mkL_stop {f : Nat → IT × Nat} {l : List NdV} {n k : Nat} (h : ∀ x, l[k]? = some x → x.kind % 4 = 3) : mkL f l n k = ([], k) := by
  cases n with
  | zero => rfl
  | succ n =>
    rw [mkL]
    cases hx : l[k]? with
    | none => rfl
    | some x => simp [h x hx]
theorem mkL_step {f : Nat → IT × Nat} {l : List NdV} {n k : Nat} {x : NdV} (h : l[k]? = some x) (h3 : x.kind % 4 ≠ 3) : mkL f l (n + 1) k = ((f k).1 :: (mkL f l n (f k).2).1, (mkL f l n (f k).2).2) := by
  rw [mkL, h]; simp [h3]

theorem kd_walk (z : Int) : (wrap64 (z.tmod 4 + 4)).tmod 4 = z % 4 := by
  rcases Int.le_total 0 z with h | h
  · rw [Int.tmod_eq_emod_of_nonneg h, IntWalk.wrap64_in _ (by omega), Int.tmod_eq_emod_of_nonneg (by omega)]; omega
  · have h1 : z.tmod 4 = -((-z) % 4) := by
      have := Int.neg_tmod (-z) 4
      rw [Int.neg_neg] at this
      rw [this, Int.tmod_eq_emod_of_nonneg (by omega)]
    rw [h1, IntWalk.wrap64_in _ (by omega), Int.tmod_eq_emod_of_nonneg (by omega)]; omega

mutual
/-- How many nodes. -/
def IT.cnt : IT → Nat
  | .num _ => 1
  | .text _ => 1
  | .list l => cntL l + 1
def cntL : List IT → Nat
  | [] => 0
  | t :: l => t.cnt + cntL l
end
mutual
/-- Its numbers are int64's, its texts short. -/
def IT.good : IT → Prop
  | .num n => -9223372036854775808 ≤ n ∧ n ≤ 9223372036854775807
  | .text s => s.size ≤ 30
  | .list l => l.length ≤ 256 ∧ goodL l
def goodL : List IT → Prop
  | [] => True
  | t :: l => t.good ∧ goodL l
end

theorem len_le_cnt (l : List IT) : l.length ≤ cntL l := by
  induction l with
  | nil => exact Nat.zero_le _
  | cons t l ih =>
    have : 1 ≤ t.cnt := by cases t <;> simp [IT.cnt]
    rw [cntL, List.length_cons]; omega

theorem decDigits_le (k : Nat) : ∀ u : Nat, u < 10 ^ (k + 1) → (Lib.decDigits u).length ≤ k + 1 := by
  induction k with
  | zero => intro u hu; rw [Lib.decDigits, dif_pos (by simpa using hu)]; simp
  | succ k ih =>
    intro u hu
    rw [Lib.decDigits]
    split
    · simp
    · have := ih (u / 10) (by rw [Nat.pow_succ] at hu; omega)
      simp; omega
theorem itoa_le (n : Int) (h0 : -9223372036854775808 ≤ n) (h1 : n ≤ 9223372036854775807) : (Lib.itoa n).length ≤ 21 := by
  have e : (10 : Nat) ^ (19 + 1) = 100000000000000000000 := by decide
  unfold Lib.itoa
  split
  · have := decDigits_le 19 n.natAbs (by omega); simp; omega
  · have := decDigits_le 19 n.toNat (by omega); omega
theorem quo_le (s : ByteArray) : (quo s).length ≤ 4 * s.size + 2 := by
  have := qbs_le s.data.toList
  unfold quo; simp at this ⊢; omega

mutual
theorem good_wf : ∀ (t : IT), t.good → t.wf
  | .num n, h => by rw [IT.good] at h; rw [IT.wf]; exact h
  | .text s, _ => by rw [IT.wf]; trivial
  | .list l, h => by rw [IT.good] at h; rw [IT.wf]; exact goodL_wf l h.2
theorem goodL_wf : ∀ (l : List IT), goodL l → wfIL l
  | [], _ => by rw [wfIL]; trivial
  | t :: l, h => by rw [goodL] at h; rw [wfIL]; exact ⟨good_wf t h.1, goodL_wf l h.2⟩
end
mutual
theorem good_encE : ∀ (t : IT), t.good → t.encE = 0
  | .num n, _ => by rw [IT.encE]
  | .text s, h => by rw [IT.good] at h; rw [IT.encE, if_pos (by omega)]
  | .list l, h => by rw [IT.good] at h; rw [IT.encE, if_pos h.1]; exact goodL_encE l h.2
theorem goodL_encE : ∀ (l : List IT), goodL l → encEL l = 0
  | [], _ => by rw [encEL]
  | t :: l, h => by rw [goodL] at h; rw [encEL, if_pos (good_encE t h.1)]; exact goodL_encE l h.2
end
mutual
theorem good_enc : ∀ (t : IT), t.good → t.enc.length ≤ 40 * t.cnt
  | .num n, _ => by rw [IT.enc, IT.cnt]; simp [bytesTo_le]
  | .text s, h => by rw [IT.good] at h; rw [IT.enc, IT.cnt]; simp [bytesTo_le]; omega
  | .list l, h => by rw [IT.good] at h; rw [IT.enc, IT.cnt]; have := goodL_enc l h.2; simp [bytesTo_le]; omega
theorem goodL_enc : ∀ (l : List IT), goodL l → (encL l).length ≤ 40 * cntL l
  | [], _ => by rw [encL, cntL]; simp
  | t :: l, h => by rw [goodL] at h; rw [encL, cntL]; have h1 := good_enc t h.1; have h2 := goodL_enc l h.2; simp; omega
end
theorem joinTail_len (sep : List UInt8) (r : List (List UInt8)) : (Lib.joinTail sep r).length = sep.length * r.length + r.flatten.length := by
  unfold Lib.joinTail
  induction r with
  | nil => simp
  | cons x r ih => simp only [List.map_cons, List.flatten_cons, List.length_append, ih, List.length_cons, Nat.mul_succ]; omega
theorem join_len (xs : List (List UInt8)) : (Lib.join xs [32]).length ≤ xs.length + xs.flatten.length := by
  cases xs with
  | nil => simp [Lib.join_nil]
  | cons x r => rw [Lib.join_cons, List.length_append, joinTail_len]; simp; omega
mutual
theorem good_shw : ∀ (t : IT), t.good → t.shw.length + 1 ≤ 131 * t.cnt
  | .num n, h => by rw [IT.good] at h; rw [IT.shw, IT.cnt]; have := itoa_le n h.1 h.2; omega
  | .text s, h => by rw [IT.good] at h; rw [IT.shw, IT.cnt]; have := quo_le s; omega
  | .list l, h => by
    rw [IT.good] at h; rw [IT.shw, IT.cnt]
    have h1 := goodL_shw l h.2
    have h2 := join_len (shwL l)
    have h3 : (shwL l).length = l.length := by rw [shwL_map, List.length_map]
    simp only [List.length_cons, List.length_append, List.length_nil]; omega
theorem goodL_shw : ∀ (l : List IT), goodL l → (shwL l).flatten.length + l.length ≤ 131 * cntL l
  | [], _ => by rw [shwL, cntL]; simp
  | t :: l, h => by rw [goodL] at h; rw [shwL, cntL]; have h1 := good_shw t h.1; have h2 := goodL_shw l h.2; rw [List.flatten_cons, List.length_append, List.length_cons]; omega
end

/-- What one step does to the place. -/
structure Steps (l : List NdV) (d : Nat) (f : Nat → IT × Nat) : Prop where
  up : ∀ k, k < l.length → k < (f k).2
  le : ∀ k, k ≤ (f k).2
  top : ∀ k m, k ≤ l.length + m → (f k).2 ≤ l.length + m + d
  cnt : ∀ k, k < l.length → (f k).1.cnt + k ≤ (f k).2
  dep : ∀ k, (f k).1.dep ≤ max d 1
  good : ∀ k, (f k).1.good

theorem mkL_facts {l : List NdV} {d : Nat} {f : Nat → IT × Nat} (h : Steps l d f) (n k : Nat) :
    k ≤ (mkL f l n k).2 ∧ (∀ m, k ≤ l.length + m → d ≤ m → (mkL f l n k).2 ≤ l.length + m) ∧ cntL (mkL f l n k).1 + k ≤ (mkL f l n k).2 ∧ depL (mkL f l n k).1 ≤ max d 1 ∧ goodL (mkL f l n k).1 := by
  induction n generalizing k with
  | zero => exact ⟨Nat.le_refl _, fun m h _ => h, by simp [mkL, cntL], by simp [mkL, depL], by simp [mkL, goodL]⟩
  | succ n ih =>
    by_cases hst : ∀ x, l[k]? = some x → x.kind % 4 = 3
    · rw [mkL_stop hst]; exact ⟨Nat.le_refl _, fun m h _ => h, by simp [cntL], by simp [depL], by simp [goodL]⟩
    · have hex : ∃ x, l[k]? = some x ∧ x.kind % 4 ≠ 3 := by
        cases hx : l[k]? with
        | none => exact absurd (fun x h => by rw [hx] at h; cases h) hst
        | some x => exact ⟨x, rfl, fun e => hst (fun y hy => by rw [hx] at hy; injection hy with hy; subst hy; exact e)⟩
      obtain ⟨x, hx, h3⟩ := hex
      have hlt : k < l.length := by
        rcases Nat.lt_or_ge k l.length with h | h
        · exact h
        · rw [List.getElem?_eq_none h] at hx; cases hx
      rw [mkL_step hx h3]
      obtain ⟨i1, i2, i3, i4, i5⟩ := ih (f k).2
      have h1 := h.cnt k hlt
      have h2 := h.le k
      have h4 := h.dep k
      refine ⟨by simp; omega, fun m hm hdm => ?_, by simp only [cntL]; omega, by simp only [depL]; omega, by simp only [goodL]; exact ⟨h.good k, i5⟩⟩
      exact i2 m (by have := h.top k 0 (by omega); omega) hdm

theorem wf_i64 {z : Int} (h : (Lit.int .i64 z).wf = true) : -9223372036854775808 ≤ z ∧ z ≤ 9223372036854775807 := by
  simp [Lit.wf, IntKind.min, IntKind.max, IntKind.signed, IntKind.bits] at h; omega

theorem mk_steps (l : List NdV) (hok : ∀ p ∈ l, p.ok) (hlen : l.length ≤ 200) (d : Nat) : 1 ≤ d → d ≤ 8 → Steps l d (mk l d) := by
  have num0 : (IT.num 0).good := by rw [IT.good]; decide
  induction d with
  | zero => intro h; omega
  | succ d ih =>
    intro _ hd8
    have key : ∀ k, (l.length ≤ k ∧ mk l (d + 1) k = (.num 0, k)) ∨ (k < l.length ∧ ∃ t, mk l (d + 1) k = (t, k + 1) ∧ t.cnt = 1 ∧ t.dep = 1 ∧ t.good) ∨ (k < l.length ∧ 1 ≤ d ∧ mk l (d + 1) k = (.list (mkL (mk l d) l l.length (k + 1)).1, (mkL (mk l d) l l.length (k + 1)).2 + 1)) := by
      intro k
      rcases Nat.lt_or_ge k l.length with hk | hk
      · refine .inr ?_
        have hx : l[k]? = some l[k] := List.getElem?_eq_getElem hk
        have hxo := hok l[k] (List.getElem_mem hk)
        by_cases h1 : l[k].kind % 4 = 1
        · exact .inl ⟨hk, _, mk_text hx h1, by rw [IT.cnt], by rw [IT.dep], by rw [IT.good]; exact t30_size _⟩
        · by_cases h2 : l[k].kind % 4 = 2 ∧ 1 ≤ d
          · exact .inr ⟨hk, h2.2, mk_list hx h2.1 h2.2⟩
          · exact .inl ⟨hk, _, mk_num hx h1 (fun h => by have : ¬ 1 ≤ d := fun hd => h2 ⟨h, hd⟩; omega), by rw [IT.cnt], by rw [IT.dep], by rw [IT.good]; exact wf_i64 hxo.2.1⟩
      · exact .inl ⟨hk, mk_none _ hk⟩
    have lst : ∀ k, k < l.length → 1 ≤ d → k + 1 ≤ (mkL (mk l d) l l.length (k + 1)).2 ∧ (mkL (mk l d) l l.length (k + 1)).2 ≤ l.length + d ∧ cntL (mkL (mk l d) l l.length (k + 1)).1 + (k + 1) ≤ (mkL (mk l d) l l.length (k + 1)).2 ∧ depL (mkL (mk l d) l l.length (k + 1)).1 ≤ d ∧ goodL (mkL (mk l d) l l.length (k + 1)).1 := by
      intro k hk hd
      obtain ⟨i1, i2, i3, i4, i5⟩ := mkL_facts (ih hd (by omega)) l.length (k + 1)
      exact ⟨i1, i2 d (by omega) (Nat.le_refl _), i3, by omega, i5⟩
    refine ⟨fun k hk => ?_, fun k => ?_, fun k m hm => ?_, fun k hk => ?_, fun k => ?_, fun k => ?_⟩
    all_goals
      rcases key k with ⟨hk', e⟩ | ⟨hk', t, e, ht1, ht2, ht3⟩ | ⟨hk', hd, e⟩
    · omega
    · rw [e]; simp
    · rw [e]; have := lst k hk' hd; simp; omega
    · rw [e]; exact Nat.le_refl _
    · rw [e]; simp
    · rw [e]; have := lst k hk' hd; simp; omega
    · rw [e]; simp; omega
    · rw [e]; simp; omega
    · rw [e]; have := lst k hk' hd; simp; omega
    · omega
    · rw [e]; simp [ht1]; omega
    · rw [e]; have := lst k hk' hd; simp [IT.cnt]; omega
    · rw [e]; simp [IT.dep]
    · rw [e]; simp [ht2]
    · rw [e]; have := lst k hk' hd; simp [IT.dep]; omega
    · rw [e]; exact num0
    · rw [e]; exact ht3
    · rw [e]; have h := lst k hk' hd; have h2 := len_le_cnt (mkL (mk l d) l l.length (k + 1)).1; simp only [IT.good]; exact ⟨by omega, h.2.2.2.2⟩

/-- The node's rows, as the reference has them. -/
def ndRow (k n : Int) (s : ByteArray) (c : Nat) : List Value := [.int .i64 k, .int .i64 n, .string s, .int .i64 c]
mutual
def nds : IT → List Value
  | .num n => ndRow 1 n ⟨#[]⟩ 0
  | .text s => ndRow 2 0 s 0
  | .list l => ndRow 3 0 ⟨#[]⟩ l.length ++ ndsL l
def ndsL : List IT → List Value
  | [] => []
  | t :: l => nds t ++ ndsL l
end
mutual
theorem nds_len : ∀ t : IT, (nds t).length = t.cnt * 4
  | .num n => by rw [nds, IT.cnt]; rfl
  | .text s => by rw [nds, IT.cnt]; rfl
  | .list l => by rw [nds, IT.cnt, List.length_append, ndsL_len l]; simp [ndRow]; omega
theorem ndsL_len : ∀ l : List IT, (ndsL l).length = cntL l * 4
  | [] => by rw [ndsL, cntL]; rfl
  | t :: l => by rw [ndsL, cntL, List.length_append, nds_len t, ndsL_len l]; omega
end
theorem cnt_pos (t : IT) : 1 ≤ t.cnt := by cases t <;> simp [IT.cnt]
theorem ndsL_snoc (l : List IT) (t : IT) : ndsL (l ++ [t]) = ndsL l ++ nds t := by
  induction l with
  | nil => rw [List.nil_append, ndsL, ndsL, ndsL]; simp
  | cons x l ih => rw [List.cons_append, ndsL, ndsL, ih, List.append_assoc]
theorem cntL_snoc (l : List IT) (t : IT) : cntL (l ++ [t]) = cntL l + t.cnt := by
  induction l with
  | nil => simp [cntL]
  | cons x l ih => rw [List.cons_append, cntL, cntL, ih]; omega
mutual
theorem nds_one : ∀ t : IT, ∀ u ∈ nds t, u.oneCell' = true
  | .num n, u, h => by rw [nds] at h; simp [ndRow] at h; rcases h with rfl | rfl | rfl | rfl <;> rfl
  | .text s, u, h => by rw [nds] at h; simp [ndRow] at h; rcases h with rfl | rfl | rfl | rfl <;> rfl
  | .list l, u, h => by
    rw [nds] at h
    rcases List.mem_append.1 h with h | h
    · simp [ndRow] at h; rcases h with rfl | rfl | rfl | rfl <;> rfl
    · exact ndsL_one l u h
theorem ndsL_one : ∀ l : List IT, ∀ u ∈ ndsL l, u.oneCell' = true
  | [], u, h => by rw [ndsL] at h; cases h
  | t :: l, u, h => by
    rw [ndsL] at h
    rcases List.mem_append.1 h with h | h
    · exact nds_one t u h
    · exact ndsL_one l u h
end

end Go.Proofs.YtkjekofllfkgoaaDoor
