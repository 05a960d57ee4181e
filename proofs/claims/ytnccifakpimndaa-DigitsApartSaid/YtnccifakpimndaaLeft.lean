/- digits.Left: for a list that was read it hands back a list of the call's own: of each number what is left to fifteen, nought for one that is no digit. Conditions: at most 1000 numbers. -/
import Derived.Test.YtnccifakpimndaaRows
import Derived.Test.YtnccifakpimndaaKit
namespace Go.Proofs.Ytnccifakpimndaa
open Go.RowKit

theorem Try.infoInt : (Try.prog.info? 3).map (fun i => (i.zero, i.size, i.bytes)) = some (some (.int .i64 0), 1, 8) := by kernel_rfl

/-- What is left to fifteen. -/
def leftOf (d : Int) : Int := if 0 ≤ d ∧ d ≤ 15 then 15 - d else 0

theorem leftOf_in (d : Int) (h : 0 ≤ d) (h' : d ≤ 15) : leftOf d = 15 - d := if_pos ⟨h, h'⟩
theorem leftOf_out (d : Int) (h : ¬ (0 ≤ d ∧ d ≤ 15)) : leftOf d = 0 := if_neg h

/-- The first k numbers' lefts, as values. -/
def lefts (zs : List Int) (k : Nat) : List Value := ints ((zs.take k).map leftOf)
theorem lefts_succ (zs : List Int) (k : Nat) (hk : k < zs.length) : lefts zs (k + 1) = lefts zs k ++ [.int .i64 (leftOf (zs[k]?.getD 0))] := by
  unfold lefts; rw [take_succ' zs 0 k hk, List.map_append, List.map_singleton, ints_snoc]

theorem lefts_getD (zs : List Int) (k : Nat) (h : k < zs.length) : (lefts zs zs.length).getD k undef = .int .i64 (leftOf (zs.getD k 0)) := by
  unfold lefts
  rw [List.take_length, ints_getD _ _ (by simpa using h)]
  simp [List.getD, h]

theorem left_step {B k : Nat} {zs : List Int} {w wr w1 : World} {u v' : Value} {n : Int} (hk : k < zs.length) (hn : leftOf (zs[k]?.getD 0) = n) (hB : B ≤ wr.heap.size)
    (hown : wr.ownsRow B 3 1 u k (lefts zs k)) (hnx : Below B w wr)
    (hown' : w1.ownsRow B 3 1 v' (k + 1) (lefts zs k ++ [.int .i64 n])) (hgrow : wr.grownBy w1 u.ownBlock) :
    w1.ownsRow B 3 1 v' (k + 1) (lefts zs (k + 1)) ∧ Below B w w1 :=
  ⟨by rw [lefts_succ zs k hk, hn]; exact hown', below_grown hnx hown (Nat.le_refl _) hB hgrow⟩

set_option maxHeartbeats 800000 in
theorem left_any (v : Value) (zs : List Int) (w : World) (hm : zs.length ≤ 1000) (hv : Cells w v (ints zs)) :
    Calls Try.prog 9 #[v] w fun e w' => ∃ v', e = .returned v' ∧ w'.ownsRow w.heap.size 3 1 v' zs.length (lefts zs zs.length) ∧ Below w.heap.size w w' := by
  obtain ⟨a, cap, rfl, hc⟩ := hv.openInts
  clear hv
  obtain ⟨len, hlen⟩ : ∃ len, len = zs.length := ⟨_, rfl⟩
  rw [← hlen] at hm hc ⊢
  have Hlen := Lib.hid hlen
  clear hlen
  go_enter Try.func9, Try.ntmps9
  go_wp2
  go_loopw [3, 9] (fun v i wr => ∃ k : Nat, k ≤ len ∧ i = .int .i64 k ∧ wr.ownsRow w.heap.size 3 1 v k (lefts zs k) ∧ Below w.heap.size w wr) (fun _ i _ => len - (intOf i).toNat)
  case atStart => exact ⟨0, Nat.zero_le _, rfl, World.ownsRow_nil _ _ _ _, Below.refl _ _⟩
  case round =>
    obtain ⟨k, hk, rfl, hown, hnx⟩ := hrel
    have hsz := hnx.size
    by_cases hlt : k < len
    · obtain ⟨b, off, rfl, hb, hc⟩ := hc k hlt
      have hcell : wr.cell? ⟨b, off + k, none⟩ = some (.int .i64 (zs.getD k 0)) := (hnx.cell hb).trans (hc k hlt)
      clear hc
      by_cases hd : 0 ≤ zs[k]?.getD 0 ∧ zs[k]?.getD 0 ≤ 15
      · have Hn := Lib.hid (leftOf_in _ hd.1 hd.2)
        obtain ⟨hd1, hd2⟩ := hd
        go_wp2_with (at_builtin; refine wpList_app1 rfl rfl Try.underlying24 Try.infoInt rfl hown rfl rfl rfl ?_ ?_ ?_ ?_; omega; (unfold maxLen; omega); exact hsz; intro v' w1 hown' hgrow; clear hcell; refine Hid.out ?_)
        have hst := left_step (by rw [← Hlen.out]; exact hlt) Hn.out hsz hown hnx hown' hgrow
        clear hown hown' hgrow
        obtain ⟨ho, hb1⟩ := hst
        unfold Hid
        go_wp2
        go_roundw
        case rel => exact ⟨k + 1, by omega, by go_num, ho, hb1⟩
        case measure => simp [intOf]; omega
      · have Hn := Lib.hid (leftOf_out _ hd)
        by_cases hd1 : 0 ≤ zs[k]?.getD 0
        · have hd2 : ¬ zs[k]?.getD 0 ≤ 15 := fun h => hd ⟨hd1, h⟩
          clear hd
          go_wp2_with (at_builtin; refine wpList_app1 rfl rfl Try.underlying24 Try.infoInt rfl hown rfl rfl rfl ?_ ?_ ?_ ?_; omega; (unfold maxLen; omega); exact hsz; intro v' w1 hown' hgrow; clear hcell; refine Hid.out ?_)
          have hst := left_step (by rw [← Hlen.out]; exact hlt) Hn.out hsz hown hnx hown' hgrow
          clear hown hown' hgrow
          obtain ⟨ho, hb1⟩ := hst
          unfold Hid
          go_wp2
          go_roundw
          case rel => exact ⟨k + 1, by omega, by go_num, ho, hb1⟩
          case measure => simp [intOf]; omega
        · clear hd
          go_wp2_with (at_builtin; refine wpList_app1 rfl rfl Try.underlying24 Try.infoInt rfl hown rfl rfl rfl ?_ ?_ ?_ ?_; omega; (unfold maxLen; omega); exact hsz; intro v' w1 hown' hgrow; clear hcell; refine Hid.out ?_)
          have hst := left_step (by rw [← Hlen.out]; exact hlt) Hn.out hsz hown hnx hown' hgrow
          clear hown hown' hgrow
          obtain ⟨ho, hb1⟩ := hst
          unfold Hid
          go_wp2
          go_roundw
          case rel => exact ⟨k + 1, by omega, by go_num, ho, hb1⟩
          case measure => simp [intOf]; omega
    · have hkl : k = len := by omega
      subst hkl
      go_wp2
      go_ret
      exact ⟨_, rfl, hown, hnx⟩

end Go.Proofs.Ytnccifakpimndaa
