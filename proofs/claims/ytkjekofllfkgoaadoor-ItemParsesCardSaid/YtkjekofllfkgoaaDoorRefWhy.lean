/- plumbobref04.Why: the error's number and where it ends. Conditions: a text of at most a thousand bytes, a depth of at most a hundred. -/
import Derived.Test.YtkjekofllfkgoaaDoorRows
import Derived.Test.YtkjekofllfkgoaaDoorKit
import Derived.WalkLawsBesides
import Derived.BigQuiet
import Derived.Deep.QuietTactic
namespace Go.Proofs.YtkjekofllfkgoaaDoor
open Go.RowKit

def bt (s : ByteArray) (k : Nat) : Nat := (s.data.toList.getD k 0).toNat
theorem bt_at (s : ByteArray) (k : Nat) (h : k < s.size) : (s[k]).toNat = bt s k := by
  unfold bt
  rw [List.getD_eq_getElem?_getD, List.getElem?_eq_getElem (by simpa using h)]; rfl

def wyMany (f : Nat → Int × Nat) : Nat → Nat → Int × Nat
  | 0, k => (0, k)
  | n + 1, k => if (f k).1 = 0 then wyMany f n (f k).2 else f k
/-- What of a text (kind 2) or a list behind the two bytes of its length. -/
def wyLen (f : Nat → Int × Nat) (s : ByteArray) (kind k n : Nat) : Int × Nat :=
  if kind = 2 then if 4096 < n then (4, k) else if s.size - k < n then (3, k) else (0, k + n)
  else if 256 < n then (4, k) else wyMany f n k
def wyBody (f : Nat → Int × Nat) (s : ByteArray) (k : Nat) : Int × Nat :=
  if s.size ≤ k then (3, k)
  else if bt s k = 1 then if s.size - (k + 1) < 8 then (3, k + 1) else (0, k + 1 + 8)
  else if bt s k ≠ 2 ∧ bt s k ≠ 3 then (4, k + 1)
  else if s.size - (k + 1) < 2 then (3, k + 1)
  else wyLen f s (bt s k) (k + 1 + 2) (256 * bt s (k + 1) + bt s (k + 1 + 1))
def wy (s : ByteArray) : Nat → Nat → Int × Nat
  | 0, k => (4, k)
  | d + 1, k => wyBody (wy s d) s k

def WhyPost (r : Int × Nat) (w : World) (e : Ending) (w' : World) : Prop := e = .returned (.tuple #[.int .i64 r.1, .int .i64 r.2]) ∧ ∃ n, w' = w.drewN n

theorem wyMany_le {f : Nat → Int × Nat} {m : Nat} (hf : ∀ k, k ≤ m → (f k).2 ≤ m) : ∀ n k, k ≤ m → (wyMany f n k).2 ≤ m := by
  intro n
  induction n with
  | zero => intro k hk; exact hk
  | succ n ih =>
    intro k hk
    rw [wyMany]
    split
    · exact ih _ (hf k hk)
    · exact hf k hk
theorem wy_le (s : ByteArray) (d : Nat) : ∀ k, k ≤ s.size → (wy s d k).2 ≤ s.size := by
  induction d with
  | zero => intro k hk; exact hk
  | succ d ih =>
    intro k hk
    rw [wy]
    unfold wyBody wyLen
    split
    · exact hk
    · split
      · split
        · show k + 1 ≤ s.size; omega
        · show k + 1 + 8 ≤ s.size; omega
      · split
        · show k + 1 ≤ s.size; omega
        · split
          · show k + 1 ≤ s.size; omega
          · split
            · split
              · show k + 1 + 2 ≤ s.size; omega
              · split
                · show k + 1 + 2 ≤ s.size; omega
                · show k + 1 + 2 + _ ≤ s.size; omega
            · split
              · show k + 1 + 2 ≤ s.size; omega
              · exact wyMany_le ih _ _ (by omega)

set_option maxRecDepth 100000 in
set_option maxHeartbeats 2000000 in
theorem why_any (s : ByteArray) (hs : s.size ≤ 1000) (d : Nat) : d ≤ 100 → ∀ (k : Nat) (w : World), k ≤ s.size →
    Calls Tryd.prog 14 #[.string s, .int .i64 k, .int .i64 d] w (WhyPost (wy s d k) w) := by
  induction d with
  | zero =>
    intro _ k w hk
    rw [wy]
    go_enter Tryd.func14, Tryd.ntmps14
    go_wp2_with fail
    go_ret2
    exact ⟨rfl, 0, rfl⟩
  | succ d ih =>
    intro hd k w hk
    rw [wy]
    have IH := Lib.hid (ih (by omega))
    have Hle := Lib.hid (wy_le s d)
    have hd0 : (((d : Int) + 1) == 0) = false := by rw [beq_eq_false_iff_ne]; omega
    have ed : (((d + 1 : Nat) : Int)) = (d : Int) + 1 := by omega
    rw [ed]
    clear ed
    clear ih
    generalize wy s d = f at IH Hle
    obtain ⟨R, hR⟩ : ∃ R, R = wyBody f s k := ⟨_, rfl⟩
    rw [← hR]
    unfold wyBody at hR
    by_cases h1 : s.size ≤ k
    · rw [if_pos h1] at hR
      subst hR
      have hle : decide (s.size ≤ k) = true := decide_eq_true h1
      clear h1
      go_enter Tryd.func14, Tryd.ntmps14
      go_wp2_with fail
      go_ret2
      exact ⟨rfl, 0, rfl⟩
    · rw [if_neg h1] at hR
      have hlt : k < s.size := by omega
      have hb := bt_at s k hlt
      have hb256 := (s[k]).toNat_lt
      rw [hb] at hb256
      have hle : decide (s.size ≤ k) = false := decide_eq_false h1
      by_cases h2 : bt s k = 1
      · rw [if_pos h2] at hR
        rw [h2] at hb
        clear h2 hb256
        by_cases h3 : s.size - (k + 1) < 8
        · rw [if_pos h3] at hR
          subst hR
          have h3' : decide ((s.size : Int) - (k + 1) < 8) = true := by simp; omega
          clear h3
          go_enter Tryd.func14, Tryd.ntmps14
          go_wp2_with fail
          go_ret2
          exact ⟨rfl, 0, rfl⟩
        · rw [if_neg h3] at hR
          subst hR
          have h3' : decide ((s.size : Int) - (k + 1) < 8) = false := by simp; omega
          clear h3
          go_enter Tryd.func14, Tryd.ntmps14
          go_wp2_with fail
          go_ret2
          exact ⟨rfl, 0, rfl⟩
      · rw [if_neg h2] at hR
        by_cases h23 : bt s k ≠ 2 ∧ bt s k ≠ 3
        · rw [if_pos h23] at hR
          subst hR
          obtain ⟨n2, n3⟩ := h23
          have e1 : ((bt s k : Int) == 1) = false := by rw [beq_eq_false_iff_ne]; omega
          have e2 : ((bt s k : Int) != 2) = true := by rw [bne_iff_ne]; omega
          have e3 : ((bt s k : Int) != 3) = true := by rw [bne_iff_ne]; omega
          clear h2 n2 n3
          go_enter Tryd.func14, Tryd.ntmps14
          go_wp2_with fail
          go_ret2
          exact ⟨rfl, 0, rfl⟩
        · rw [if_neg h23] at hR
          have hk23 : bt s k = 2 ∨ bt s k = 3 := by omega
          clear h23 h2 hb256
          by_cases h4 : s.size - (k + 1) < 2
          · rw [if_pos h4] at hR
            subst hR
            have h4' : decide ((s.size : Int) - (k + 1) < 2) = true := by simp; omega
            clear h4
            rcases hk23 with h | h
            all_goals
              rw [h] at hb
              clear h
              go_enter Tryd.func14, Tryd.ntmps14
              go_wp2_with fail
              go_ret2
              exact ⟨rfl, 0, rfl⟩
          · rw [if_neg h4] at hR
            have h4' : decide ((s.size : Int) - (k + 1) < 2) = false := by simp; omega
            have hk1 : k + 1 < s.size := by omega
            have hk2 : k + 1 + 1 < s.size := by omega
            have hb1 := bt_at s (k + 1) hk1
            have hb2 := bt_at s (k + 1 + 1) hk2
            have b1 : bt s (k + 1) < 256 := by rw [← hb1]; exact UInt8.toNat_lt _
            have b2 : bt s (k + 1 + 1) < 256 := by rw [← hb2]; exact UInt8.toNat_lt _
            unfold wyLen at hR
            generalize bt s (k + 1) = x1 at hR hb1 b1
            generalize bt s (k + 1 + 1) = x2 at hR hb2 b2
            have H1 := Lib.hid hk1
            rcases hk23 with h | h
            · rw [h] at hb hR
              rw [if_pos rfl] at hR
              clear h h4
              have HR0 := Lib.hid hR
              clear hR
              go_enter Tryd.func14, Tryd.ntmps14
              go_wp2_with fail
              have hR := HR0.out
              clear HR0
              have i0 : (0 : Int) ≤ (k : Int) + 1 := by omega
              have i1 : (k : Int) + 1 < (s.size : Int) := by omega
              have i2 : (0 : Int) ≤ (k : Int) + 1 + 1 := by omega
              have i3 : (k : Int) + 1 + 1 < (s.size : Int) := by omega
              have i4 : IntKind.i64.wrap ((k : Int) + 1 + 1) = (k : Int) + 1 + 1 := IntWalk.i64_in _ (by omega)
              have i5 : IntKind.i64.wrap (x1 : Int) = (x1 : Int) := IntWalk.i64_in _ (by omega)
              have i6 : IntKind.i64.wrap (x2 : Int) = (x2 : Int) := IntWalk.i64_in _ (by omega)
              have i7 : IntKind.i64.wrap (256 * (x1 : Int)) = 256 * (x1 : Int) := IntWalk.i64_in _ (by omega)
              have i8 : IntKind.i64.wrap (256 * (x1 : Int) + x2) = 256 * (x1 : Int) + x2 := IntWalk.i64_in _ (by omega)
              have t1 : ((k : Int) + 1).toNat = k + 1 := by omega
              have t2 : ((k : Int) + 1 + 1).toNat = k + 1 + 1 := by omega
              go_quiet (fail)
              clear i0 i1 i2 i3 i4 i5 i6 i7 i8 t1 t2 hb1 hb2
              obtain ⟨n, hn⟩ : ∃ n, n = 256 * x1 + x2 := ⟨_, rfl⟩
              have en : 256 * (x1 : Int) + x2 = (n : Int) := by omega
              rw [en]
              have hn6 : n < 65536 := by omega
              rw [← hn] at hR
              clear en hn
              by_cases h5 : 4096 < n
              · rw [if_pos h5] at hR
                subst hR
                have h5' : decide ((4096 : Int) < (n : Int)) = true := by simp; omega
                clear h5
                go_wp2
                go_ret2
                exact ⟨rfl, nq, rfl⟩
              · rw [if_neg h5] at hR
                have h5' : decide ((4096 : Int) < (n : Int)) = false := by simp; omega
                by_cases h6 : s.size - (k + 1 + 2) < n
                · rw [if_pos h6] at hR
                  subst hR
                  have h6' : decide ((s.size : Int) - (k + 1 + 2) < n) = true := by simp; omega
                  have h6'' : decide ((s.size : Int) - (k + 3) < n) = true := by simp; omega
                  clear h5 h6
                  go_wp2
                  go_ret2
                  exact ⟨rfl, nq, rfl⟩
                · rw [if_neg h6] at hR
                  subst hR
                  have h6' : decide ((s.size : Int) - (k + 1 + 2) < n) = false := by simp; omega
                  have h6'' : decide ((s.size : Int) - (k + 3) < n) = false := by simp; omega
                  clear h5 h6
                  go_wp2
                  go_ret2
                  exact ⟨rfl, nq, rfl⟩
            · rw [h] at hb hR
              rw [if_neg (by decide)] at hR
              clear h h4
              have HR0 := Lib.hid hR
              clear hR
              go_enter Tryd.func14, Tryd.ntmps14
              go_wp2_with fail
              have hR := HR0.out
              clear HR0
              have i0 : (0 : Int) ≤ (k : Int) + 1 := by omega
              have i1 : (k : Int) + 1 < (s.size : Int) := by omega
              have i2 : (0 : Int) ≤ (k : Int) + 1 + 1 := by omega
              have i3 : (k : Int) + 1 + 1 < (s.size : Int) := by omega
              have i4 : IntKind.i64.wrap ((k : Int) + 1 + 1) = (k : Int) + 1 + 1 := IntWalk.i64_in _ (by omega)
              have i5 : IntKind.i64.wrap (x1 : Int) = (x1 : Int) := IntWalk.i64_in _ (by omega)
              have i6 : IntKind.i64.wrap (x2 : Int) = (x2 : Int) := IntWalk.i64_in _ (by omega)
              have i7 : IntKind.i64.wrap (256 * (x1 : Int)) = 256 * (x1 : Int) := IntWalk.i64_in _ (by omega)
              have i8 : IntKind.i64.wrap (256 * (x1 : Int) + x2) = 256 * (x1 : Int) + x2 := IntWalk.i64_in _ (by omega)
              have t1 : ((k : Int) + 1).toNat = k + 1 := by omega
              have t2 : ((k : Int) + 1 + 1).toNat = k + 1 + 1 := by omega
              go_quiet (fail)
              clear i0 i1 i2 i3 i4 i5 i6 i7 i8 t1 t2 hb1 hb2
              obtain ⟨n, hn⟩ : ∃ n, n = 256 * x1 + x2 := ⟨_, rfl⟩
              have en : 256 * (x1 : Int) + x2 = (n : Int) := by omega
              rw [en]
              have hn6 : n < 65536 := by omega
              rw [← hn] at hR
              clear en hn
              by_cases h5 : 256 < n
              · rw [if_pos h5] at hR
                subst hR
                have h5' : decide ((256 : Int) < (n : Int)) = true := by simp; omega
                clear h5
                go_wp2
                go_ret2
                exact ⟨rfl, nq, rfl⟩
              · rw [if_neg h5] at hR
                have h5' : decide ((256 : Int) < (n : Int)) = false := by simp; omega
                have HR := Lib.hid hR
                clear h5 hR
                go_wp2_with fail
                clear h5'
                have hk3 := H1.out
                go_loopw [1, 10] (fun at' i W => ∃ (j c m : Nat), i = .int .i64 j ∧ at' = .int .i64 c ∧ j ≤ n ∧ c ≤ s.size ∧ wyMany f n (k + 1 + 2) = wyMany f (n - j) c ∧ W = w.drewN m) (fun _ i _ => n - (intOf i).toNat)
                case atStart => exact ⟨0, k + 1 + 2, nq, rfl, by exact val_int (by omega), Nat.zero_le _, by omega, rfl, rfl⟩
                case round =>
                  obtain ⟨j, c, m, rfl, rfl, hj, hc, hwm, rfl⟩ := hrel
                  have Hwm := Lib.hid hwm
                  clear hwm
                  by_cases hjn : j < n
                  · obtain ⟨n', hn'⟩ : ∃ n', n - j = n' + 1 := ⟨n - j - 1, by omega⟩
                    have hn2 : n - (j + 1) = n' := by omega
                    have Hn2 := Lib.hid hn2
                    have Hm2 := Lib.hid (show wyMany f n (k + 1 + 2) = if (f c).1 = 0 then wyMany f n' (f c).2 else f c by rw [Hwm.out, hn', wyMany])
                    have hle := Hle.out c hc
                    clear hn' hn2 Hwm
                    go_wp2_with fail
                    refine (IH.out c _ hc).mono ?_
                    rintro e w2 ⟨rfl, m2, rfl⟩
                    generalize f c = r at Hm2 hle ⊢
                    obtain ⟨r1, r2⟩ := r
                    simp only at hle Hm2 ⊢
                    by_cases hr : r1 = 0
                    · subst hr
                      have Hm3 := Lib.hid (show wyMany f n (k + 1 + 2) = wyMany f (n - (j + 1)) r2 by rw [Hm2.out, if_pos rfl, Hn2.out])
                      go_wp2
                      go_roundw
                      case rel => exact ⟨j + 1, r2, m + m2, by go_num, rfl, by omega, hle, Hm3.out, by simp⟩
                      case measure => simp [intOf]; omega
                    · have hne : (r1 != 0) = true := bne_iff_ne.2 hr
                      have HR2 := Lib.hid (show R = (r1, r2) by rw [HR.out, Hm2.out, if_neg hr])
                      clear hr
                      go_wp2
                      go_ret2
                      rw [HR2.out]
                      exact ⟨rfl, m + m2, by simp⟩
                  · have HR2 := Lib.hid (show R = (0, c) by rw [HR.out, Hwm.out, show n - j = 0 from by omega, wyMany])
                    obtain rfl : j = n := by omega
                    go_wp2
                    go_ret2
                    rw [HR2.out]
                    exact ⟨rfl, m, rfl⟩

end Go.Proofs.YtkjekofllfkgoaaDoor
