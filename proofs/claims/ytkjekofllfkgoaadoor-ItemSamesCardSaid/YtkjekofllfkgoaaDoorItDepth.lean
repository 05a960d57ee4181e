/- item.depth: how deep an item is. Conditions: no deeper than a million. -/
import Derived.Test.YtkjekofllfkgoaaDoorItem
namespace Go.Proofs.YtkjekofllfkgoaaDoor
open Go.RowKit

set_option maxRecDepth 100000 in
theorem depth_leaf (T : TypeId) (u : Value) (w : World) (h : T ≠ 85) :
    Calls Tryd.prog 26 #[.iface T u] w fun e w' => e = .returned (.int .i64 1) ∧ w = w' := by
  have h1 := run_assert_miss (P := Tryd.prog) plainList zeroList h u 24
  clear h
  go_enter Tryd.func26, Tryd.ntmps26
  go_wp2_with fail
  go_loop [5, 15] (fun d i => d = .int .i64 0 ∧ i = .int .i64 0) (fun _ _ => 0)
  case atStart => exact ⟨rfl, rfl⟩
  case round =>
    obtain ⟨rfl, rfl⟩ := hrel
    go_wp2
    go_ret
    exact ⟨rfl, rfl⟩

set_option maxRecDepth 100000 in
theorem depth_nil (w : World) :
    Calls Tryd.prog 26 #[.nilIface] w fun e w' => e = .returned (.int .i64 1) ∧ w = w' := by
  have h1 := run_assert_nil (P := Tryd.prog) plainList zeroList 24
  go_enter Tryd.func26, Tryd.ntmps26
  go_wp2_with fail
  go_loop [5, 15] (fun d i => d = .int .i64 0 ∧ i = .int .i64 0) (fun _ _ => 0)
  case atStart => exact ⟨rfl, rfl⟩
  case round =>
    obtain ⟨rfl, rfl⟩ := hrel
    go_wp2
    go_ret
    exact ⟨rfl, rfl⟩

set_option maxRecDepth 100000 in
theorem depth_any (m : Nat) (hm : m ≤ 1000000) : ∀ (t : IT) (v : Value) (w : World) (ok : Nat → Prop), t.dep ≤ m → Itm w ok v t →
    Calls Tryd.prog 26 #[v] w fun e w' => e = .returned (.int .i64 t.dep) ∧ w = w' := by
  induction m with
  | zero => intro t v w ok hd; cases t <;> simp [IT.dep] at hd
  | succ m ih =>
    intro t v w ok hd hi
    match t, hd, hi with
    | .num n, _, hi => rw [Itm.num_eq] at hi; subst hi; exact depth_leaf _ _ w (by decide)
    | .text s, _, hi => rw [Itm.text_eq] at hi; subst hi; exact depth_leaf _ _ w (by decide)
    | .list l, hd, hi =>
      rw [Itm.list_eq] at hi
      obtain ⟨a, cap, xs, rfl, hlen, hmax, ha, hx⟩ := hi
      rw [IT.dep] at hd ⊢
      have h1 := run_assert_hit (P := Tryd.prog) plainList (.slice a l.length cap) 24
      have Hlen := Lib.hid hlen
      clear hlen
      go_enter Tryd.func26, Tryd.ntmps26
      go_wp2_with fail
      clear h1
      go_loop [5, 15] (fun d i => ∃ k : Nat, k ≤ l.length ∧ d = .int .i64 (depL (l.take k) : Nat) ∧ i = .int .i64 k) (fun _ i => l.length - (intOf i).toNat)
      case atStart => exact ⟨0, Nat.zero_le _, rfl, rfl⟩
      case round =>
        obtain ⟨k, hk, rfl, rfl⟩ := hrel
        by_cases hlt : k < l.length
        · obtain ⟨b, T, u, t, rfl, hb, _, ht, hmem, hc, hit⟩ := Itm.cell_at hx ha k hlt
          have htd := dep_mem hmem
          have hs := Lib.hid (depL_take_succ l k t ht)
          generalize depL (l.take k) = d at hs ⊢
          go_wp2_with fail
          refine (ih (by omega) t _ _ ok (by omega) hit).mono ?_
          rintro e w' ⟨rfl, rfl⟩
          go_wp2
          go_round
          case rel => exact ⟨k + 1, by omega, by rw [hs.out]; exact val_int (by split <;> omega), by go_num⟩
          case measure => simp [intOf]; omega
        · obtain rfl : k = l.length := by omega
          go_wp2
          go_ret
          exact ⟨rfl, rfl⟩

end Go.Proofs.YtkjekofllfkgoaaDoor
