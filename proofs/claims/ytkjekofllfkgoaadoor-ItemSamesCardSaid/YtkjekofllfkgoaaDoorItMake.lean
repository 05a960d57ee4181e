/- item.Num, item.Text, item.List: the items that they make. Conditions: a list of at most a million. -/
import Derived.Test.YtkjekofllfkgoaaDoorItem
import Derived.Test.YtkjekofllfkgoaaDoorItApp
namespace Go.Proofs.YtkjekofllfkgoaaDoor
open Go.RowKit

theorem itNum_any (n : Int) (w : World) :
    Calls Tryd.prog 16 #[.int .i64 n] w fun e w' => e = .returned (.iface 2 (.int .i64 n)) ∧ w = w' := by
  go_enter Tryd.func16, Tryd.ntmps16
  go_wp2
  go_ret
  exact ⟨rfl, rfl⟩
theorem itText_any (s : ByteArray) (w : World) :
    Calls Tryd.prog 15 #[.string s] w fun e w' => e = .returned (.iface 9 (.string s)) ∧ w = w' := by
  go_enter Tryd.func15, Tryd.ntmps15
  go_wp2
  go_ret
  exact ⟨rfl, rfl⟩

theorem ItmL.one {w : World} {ok : Nat → Prop} : ∀ {xs : List Value} {l : List IT}, xs.length = l.length → ItmL w ok xs l → ∀ u ∈ xs, u.oneCell' = true
  | [], _, _, _, u, hu => by cases hu
  | x :: xs, [], h, _, u, hu => by simp at h
  | x :: xs, t :: l, h, hi, u, hu => by
    rw [ItmL] at hi
    rcases List.mem_cons.1 hu with rfl | hu
    · obtain ⟨T, y, rfl⟩ := hi.1.one; rfl
    · exact ItmL.one (by simpa using h) hi.2 u hu

theorem Tryd.infoItem : (Tryd.prog.info? 24).map (fun i => (i.zero, i.size, i.bytes)) = some (some .nilIface, 1, 16) := by kernel_rfl

/-- A slice that holds these items. -/
def Holder (w : World) (ok : Nat → Prop) (a : Option Addr) (l : List IT) : Prop := ∃ xs, xs.length = l.length ∧ l.length ≤ 1000000 ∧ (l ≠ [] → ∃ b, a = some ⟨b, 0, none⟩ ∧ b < w.heap.size ∧ ∀ (j : Nat) x, xs[j]? = some x → w.cell? ⟨b, j, none⟩ = some x) ∧ ItmL w ok xs l

theorem itList_any (a : Option Addr) (cap : Nat) (l : List IT) (w : World) (ok : Nat → Prop) (h : Holder w ok a l) :
    Calls Tryd.prog 17 #[.slice a l.length cap] w fun e w' => ∃ v, e = .returned v ∧ Itm w' (fun k => ok k ∨ w.heap.size ≤ k) v (.list l) ∧ Below w.heap.size w w' := by
  obtain ⟨xs, hlen, hmax, ha, hx⟩ := h
  have hone := Lib.hid (ItmL.one hlen hx)
  have HA := Lib.hid ha
  have HX := Lib.hid hx
  have Hlen := Lib.hid hlen
  clear ha hx hlen
  have own0 : w.ownsRow w.heap.size 24 1 (.slice none 0 0) 0 [] := World.ownsRow_nil _ _ _ _
  go_enter Tryd.func17, Tryd.ntmps17
  go_wp2_with (at_builtin; refine Hid.out ?_)
  unfold Hid
  by_cases hl : l = []
  · subst hl
    refine wpList_appSrc rfl rfl 1 Tryd.underlying85 Tryd.underlying42 Tryd.infoItem rfl (by decide) own0 rfl (news := []) rfl (by simp) (fun _ => rfl) (fun _ _ j u h => by simp at h) (fun _ h => by cases h) (by simp) (by simp) (Nat.le_refl _) ?_
    intro v' w2 ho2 hg2 _
    obtain ⟨a2, c2, rfl⟩ := own_shape ho2
    have hb := (Below.refl w.heap.size w).grown hg2 (Nat.le_refl _) (by simp [Value.ownBlock])
    clear ho2 hg2
    go_wp2
    go_ret
    refine ⟨_, rfl, ?_, hb⟩
    rw [Itm.list_eq]
    exact ⟨a2, c2, [], rfl, rfl, by simp, fun h => absurd rfl h, by rw [ItmL]; trivial⟩
  · have hn : l.length ≠ 0 := by simpa using hl
    refine wpList_appSrc rfl rfl 1 Tryd.underlying85 Tryd.underlying42 Tryd.infoItem rfl (by decide) own0 rfl (news := xs) rfl (by rw [Hlen.out]; simp) ?_ ?_ hone.out (by unfold maxLen; omega) (by omega) (Nat.le_refl _) ?_
    · intro h; obtain ⟨b, h1, _⟩ := HA.out hl; rw [h1] at h; cases h
    · intro ad had j u hj
      obtain ⟨b, h1, h2, h3⟩ := HA.out hl
      rw [h1] at had
      injection had with had
      subst had
      have hadd : (⟨b, 0, none⟩ : Addr).add j = ⟨b, j, none⟩ := by unfold Addr.add; split <;> simp_all
      rw [hadd]; exact h3 j u hj
    intro v' w2 ho2 hg2 _
    obtain ⟨g, c2, rfl, hbg, hgw, _, hcell⟩ := own_open ho2 (by omega)
    have hb := (Below.refl w.heap.size w).grown hg2 (Nat.le_refl _) (by simp [Value.ownBlock])
    have HC := Lib.hid hcell
    clear ho2 hg2 hcell hn
    rw [Nat.zero_add]
    go_wp2
    go_ret
    refine ⟨_, rfl, ?_, hb⟩
    rw [Itm.list_eq]
    refine ⟨_, c2, xs, rfl, Hlen.out, hmax, fun _ => ⟨g, rfl, hgw, .inr hbg, ?_⟩, ?_⟩
    · simpa using HC.out
    · refine (ItmL.carry (w' := w2) hb.size (fun b j _ hlt => hb.cell (p := ⟨b, j, none⟩) hlt) (fun _ hb _ => .inl hb) l xs HX.out)

end Go.Proofs.YtkjekofllfkgoaaDoor
