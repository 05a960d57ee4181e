/- An item's bytes are read back as that item. Conditions: none of a program. -/
import Derived.Test.YtkjekofllfkgoaaDoorReadBack
import Derived.Test.YtkjekofllfkgoaaDoorItDec
import Derived.Test.YtkjekofllfkgoaaDoorMadePlain
namespace Go.Proofs.YtkjekofllfkgoaaDoor
open Go.RowKit

theorem s64_u64n (n : Int) (h0 : -9223372036854775808 ≤ n) (h1 : n ≤ 9223372036854775807) : s64 (u64n n) = n := by
  unfold s64 u64n
  have e : ((n % 18446744073709551616).toNat : Int) = n % 18446744073709551616 := by omega
  rw [e]
  unfold wrap64
  omega

/-- A number, read back. -/
theorem back_num (n z : Nat) (rest : List UInt8) (h1 : 1 ≤ z) (h8 : z ≤ 8) (hn : n < 256 ^ z) :
    nmN ⟨(bytesTo n z z ++ rest).toArray⟩ 0 z = n ∧ nmS ⟨(bytesTo n z z ++ rest).toArray⟩ 0 z = ⟨rest.toArray⟩ := by
  have hok : okNum n z = true := decide_eq_true ⟨by omega, by omega, by rw [Int.toNat_natCast]; exact hn⟩
  have hr : refBytes n z = bytesTo n z z := by unfold refBytes; rw [if_pos hok, Int.toNat_natCast]
  obtain ⟨a, b, _⟩ := read_num n z rest hok
  rw [hr] at a b
  exact ⟨a, b⟩
theorem back_byte (k : UInt8) (rest : List UInt8) : nmN ⟨(k :: rest).toArray⟩ 0 1 = k.toNat ∧ nmS ⟨(k :: rest).toArray⟩ 0 1 = ⟨rest.toArray⟩ := by
  have h := back_num k.toNat 1 rest (by decide) (by decide) (by have := k.toNat_lt; omega)
  have e : bytesTo k.toNat 1 1 = [k] := by simp [bytesTo, byteAt]
  rw [e] at h
  exact h
theorem back_text (s : ByteArray) (rest : List UInt8) (h : s.size ≤ 4096) :
    txT ⟨(bytesTo s.size 2 2 ++ s.data.toList ++ rest).toArray⟩ 0 = s ∧ txS ⟨(bytesTo s.size 2 2 ++ s.data.toList ++ rest).toArray⟩ 0 = ⟨rest.toArray⟩ ∧ txE ⟨(bytesTo s.size 2 2 ++ s.data.toList ++ rest).toArray⟩ 0 = 0 := by
  have hok : okNum s.size 2 = true := decide_eq_true ⟨by omega, by omega, Nat.lt_of_le_of_lt h (by decide)⟩
  have hr : refBytes s.size 2 = bytesTo s.size 2 2 := if_pos hok
  have := read_text s rest (decide_eq_true h)
  rw [hr] at this
  exact this

/-- The item has bytes: its texts and lists are not too long, its numbers int64's. -/
theorem pMany_back {p : ByteArray → Except Int (IT × ByteArray)} (l : List IT) (rest : List UInt8) (hp : ∀ t ∈ l, ∀ rest : List UInt8, p ⟨(t.enc ++ rest).toArray⟩ = .ok (t, ⟨rest.toArray⟩)) :
    pMany p l.length ⟨(encL l ++ rest).toArray⟩ = .ok (l, ⟨rest.toArray⟩) := by
  induction l with
  | nil => rw [encL]; rfl
  | cons t l ih =>
    rw [encL, List.append_assoc, List.length_cons, pMany, hp t (List.mem_cons_self) _]
    dsimp only
    rw [ih (fun t ht => hp t (List.mem_cons_of_mem _ ht))]

theorem pItem_back (d : Nat) : ∀ (t : IT) (rest : List UInt8), t.dep ≤ d → t.encE = 0 → t.wf → pItem d ⟨(t.enc ++ rest).toArray⟩ = .ok (t, ⟨rest.toArray⟩) := by
  induction d with
  | zero => intro t rest hd; cases t <;> simp [IT.dep] at hd
  | succ d ih =>
    intro t rest hd he hw
    match t, hd, he, hw with
    | .num n, _, _, hw =>
      rw [IT.wf] at hw
      rw [IT.enc, pItem, List.cons_append]
      obtain ⟨a, b⟩ := back_byte 1 (bytesTo (u64n n) 8 8 ++ rest)
      rw [a, b, if_neg (by rw [mk_size]; simp), if_pos (show (1 : UInt8).toNat = 1 from rfl)]
      obtain ⟨c, e⟩ := back_num (u64n n) 8 rest (by decide) (by decide) (u64n_lt n)
      rw [if_neg (by rw [mk_size]; simp [bytesTo_le]), show nmN _ 0 8 = _ from c, show nmS _ 0 8 = _ from e, s64_u64n n hw.1 hw.2]
    | .text s, _, he, _ =>
      rw [IT.encE] at he
      have hs : s.size ≤ 4096 := by
        rcases Nat.lt_or_ge 4096 s.size with h | h
        · rw [if_neg (by omega)] at he; cases he
        · exact h
      rw [IT.enc, pItem, List.cons_append]
      obtain ⟨a, b⟩ := back_byte 2 (bytesTo s.size 2 2 ++ s.data.toList ++ rest)
      rw [a, b, if_neg (by rw [mk_size]; simp), if_neg (by decide), if_pos (show (2 : UInt8).toNat = 2 from rfl)]
      obtain ⟨c, e, f⟩ := back_text s rest hs
      rw [f, c, e, if_pos rfl]
    | .list l, hd, he, hw =>
      rw [IT.dep] at hd
      rw [IT.wf] at hw
      rw [IT.encE] at he
      have hl : l.length ≤ 256 := by
        rcases Nat.lt_or_ge 256 l.length with h | h
        · rw [if_neg (by omega)] at he; cases he
        · exact h
      rw [if_pos hl] at he
      rw [IT.enc, pItem, List.cons_append]
      obtain ⟨a, b⟩ := back_byte 3 (bytesTo l.length 2 2 ++ encL l ++ rest)
      rw [a, b, if_neg (by rw [mk_size]; simp), if_neg (by decide), if_neg (by decide), if_pos (show (3 : UInt8).toNat = 3 from rfl)]
      unfold pList
      rw [List.append_assoc]
      obtain ⟨c, e⟩ := back_num l.length 2 (encL l ++ rest) (by decide) (by decide) (by have : (256 : Nat) ^ 2 = 65536 := by decide
                                                                                        omega)
      rw [if_neg (by rw [mk_size]; simp [bytesTo_le]), show nmN _ 0 2 = _ from c, show nmS _ 0 2 = _ from e, if_neg (by omega)]
      have hall : ∀ (l : List IT), encEL l = 0 → ∀ t ∈ l, t.encE = 0 := by
        intro l
        induction l with
        | nil => intro _ t ht; cases ht
        | cons x l ih =>
          intro h t ht
          rw [encEL] at h
          by_cases hx : x.encE = 0
          · rw [if_pos hx] at h
            rcases List.mem_cons.1 ht with rfl | ht
            · exact hx
            · exact ih h t ht
          · rw [if_neg hx] at h; exact absurd h hx
      rw [pMany_back l rest (fun t ht rest => ih t rest (by have := dep_mem ht; omega) (hall l he t ht) (wf_mem hw ht))]

end Go.Proofs.YtkjekofllfkgoaaDoor
