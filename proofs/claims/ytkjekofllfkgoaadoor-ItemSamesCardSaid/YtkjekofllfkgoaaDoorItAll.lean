/- Encode, Decode and Show at items that are short enough; plumboblaw04.speaks. Conditions: strconv's table of powers holds what its initialiser lays. -/
import Derived.Test.YtkjekofllfkgoaaDoorItDecode
import Derived.Test.YtkjekofllfkgoaaDoorItParse
namespace Go.Proofs.YtkjekofllfkgoaaDoor
open Go.RowKit

/-- An item as made makes them. -/
structure Fine (t : IT) : Prop where
  good : t.good
  dep : t.dep ≤ 8
  cnt : t.cnt ≤ 1000

theorem enc_fine (t : IT) (h : Fine t) (v : Value) (w : World) (ok : Nat → Prop) (hi : Itm w ok v t) :
    Calls Tryd.prog 11 #[v] w fun e w' => e = .returned (.tuple #[.string ⟨t.enc.toArray⟩, .int .i64 0]) ∧ Below w.heap.size w w' := by
  have h1 := good_enc t h.good
  have h2 := h.cnt
  have hR : t.encR = 0 := by unfold IT.encR; rw [if_pos h.dep]; exact good_encE t h.good
  have hT : t.encT = ⟨t.enc.toArray⟩ := if_pos hR
  have := itEncode_any t v w ok hi (by have := h.dep; omega) (by omega)
  rw [hR, hT] at this
  exact this

theorem dec_fine (t : IT) (h : Fine t) (w : World) :
    Calls Tryd.prog 12 #[.string ⟨t.enc.toArray⟩] w fun e w' => ∃ v, e = .returned (.tuple #[v, .int .i64 0]) ∧ Itm w' (w.heap.size ≤ ·) v t ∧ Below w.heap.size w w' := by
  have hp : pItem 8 ⟨t.enc.toArray⟩ = .ok (t, ⟨#[]⟩) := by
    have := pItem_back 8 t [] h.dep (good_encE t h.good) (good_wf t h.good)
    rwa [List.append_nil] at this
  have hR : decR ⟨t.enc.toArray⟩ = 0 := by unfold decR; rw [hp]; rfl
  refine (decode_any _ w).mono ?_
  rintro e w' ⟨hb, ⟨t', v, q, hp', _, he, hi⟩ | ⟨hne, _⟩⟩
  · rw [hp] at hp'
    injection hp' with hp'
    injection hp' with h1 _
    subst h1
    exact ⟨v, he, hi, hb⟩
  · exact absurd hR hne

theorem show_fine (t : IT) (h : Fine t) (v : Value) (w : World) (ok : Nat → Prop) (hi : Itm w ok v t) (hp : Pow w) :
    Calls Tryd.prog 13 #[v] w fun e w' => e = .returned (.string ⟨t.shw.toArray⟩) ∧ Below w.heap.size w w' := by
  have h1 := good_shw t h.good
  have h2 := h.cnt
  exact show_any 8 t v w ok h.dep hi hp (good_wf t h.good) (by omega)

def two : IT := .list [.num 1, .text ⟨#[97]⟩]
theorem two_fine : Fine two := by
  refine ⟨?_, ?_, ?_⟩
  · unfold two; rw [IT.good, goodL, goodL, goodL, IT.good, IT.good]; exact ⟨by decide, by decide, by decide, trivial⟩
  · unfold two; rw [IT.dep, depL, depL, depL, IT.dep, IT.dep]; decide
  · unfold two; rw [IT.cnt, cntL, cntL, cntL, IT.cnt, IT.cnt]; decide
theorem two_shw : two.shw = [91, 49, 32, 34, 97, 34, 93] := by
  have h : Lib.itoa 1 = [49] := by unfold Lib.itoa; rw [if_neg (by decide), Lib.decDigits, dif_pos (by decide)]; rfl
  unfold two
  rw [IT.shw, shwL, shwL, shwL, IT.shw, IT.shw, h]
  decide +kernel

set_option maxHeartbeats 800000 in
theorem speaks4_any (w : World) (hp : Pow w) : Calls Tryd.prog 8 #[] w fun e w' => e = .returned (.bool true) ∧ Below w.heap.size w w' := by
  have HP := Lib.hid hp
  clear hp
  go_enter Tryd.func8, Tryd.ntmps8
  go_wp2_with fail
  refine (itNum_any 1 _).mono ?_
  rintro e w' ⟨rfl, rfl⟩
  go_wp2_with fail
  refine (itText_any _ _).mono ?_
  rintro e w' ⟨rfl, rfl⟩
  go_wp2_with fail
  have hold : Holder (w.alloc (.cells #[.iface 2 (.int .i64 1), .iface 9 (.string ⟨#[97]⟩)] 24)) (fun _ => True) (some ⟨w.heap.size, 0, none⟩) [.num 1, .text ⟨#[97]⟩] := by
    refine ⟨[.iface 2 (.int .i64 1), .iface 9 (.string ⟨#[97]⟩)], rfl, by decide, fun _ => ⟨w.heap.size, rfl, by simp, fun j x hj => ?_⟩, ?_⟩
    · rw [World.cell?_alloc_at _ _ _ _ rfl]; simpa using hj
    · rw [ItmL, ItmL, ItmL]; exact ⟨Itm.num_eq.2 rfl, Itm.text_eq.2 rfl, trivial⟩
  refine (itList_any _ 2 _ _ _ hold).mono ?_
  rintro e w1 ⟨v, rfl, hi, hb1⟩
  have hi : Itm w1 (fun _ => True) v two := hi.mono fun _ _ _ => trivial
  have hb1 : Below w.heap.size w w1 := ((Below.refl _ _).alloc (Nat.le_refl _) _).trans (hb1.mono (by simp))
  clear hold
  obtain ⟨T, u, rfl⟩ := hi.one
  go_wp2_with fail
  refine (enc_fine two two_fine _ _ _ hi).mono ?_
  rintro e w2 ⟨rfl, hb2⟩
  have s1 := hb1.size
  have s2 := hb2.size
  have hi2 := hi.old hb2
  have hb2 := hb1.trans (hb2.mono s1)
  go_wp2_with fail
  refine (dec_fine two two_fine _).mono ?_
  rintro e w3 ⟨v3, rfl, hi3, hb3⟩
  obtain ⟨T3, u3, rfl⟩ := hi3.one
  have s3 := hb3.size
  have hi2 := hi2.old hb3
  have hb3 := hb2.trans (hb3.mono (by omega))
  go_wp2_with fail
  refine (show_fine two two_fine _ _ _ hi2 (HP.out.old hb3)).mono ?_
  rintro e w4 ⟨rfl, hb4⟩
  have s4 := hb4.size
  have hi4 := hi3.old hb4
  have hb4 := hb3.trans (hb4.mono (by omega))
  rw [two_shw]
  go_wp2_with fail
  refine (show_fine two two_fine _ _ _ hi4 (HP.out.old hb4)).mono ?_
  rintro e w5 ⟨rfl, hb5⟩
  have hb5 := hb4.trans (hb5.mono (by omega))
  rw [two_shw]
  go_wp2
  go_ret
  exact ⟨rfl, hb5⟩

end Go.Proofs.YtkjekofllfkgoaaDoor
