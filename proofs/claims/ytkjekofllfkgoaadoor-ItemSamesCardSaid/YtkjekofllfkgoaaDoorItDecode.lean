/- item.Decode: the item, or why there is none. Conditions: none. -/
import Derived.Test.YtkjekofllfkgoaaDoorItDec
namespace Go.Proofs.YtkjekofllfkgoaaDoor
open Go.RowKit

set_option maxRecDepth 100000 in
set_option maxHeartbeats 1000000 in
theorem item_any (db rb : Nat) (d : Nat) (hd : d ≤ 99) : ∀ (s : ByteArray) (w : World), Dec w db rb s false 0 →
    Calls Tryd.prog 30 #[.pointer (some ⟨db, 0, none⟩), .int .i64 d] w (ItemPost db rb (pItem d s) w) := by
  induction d with
  | zero => intro s w h; exact item_leaf db rb s 0 w h (by omega) (.inl rfl)
  | succ d ih =>
    intro s w h
    by_cases hz : s.size < 1
    · exact item_leaf db rb s _ w h (by omega) (.inr (.inl hz))
    · by_cases h3 : nmN s 0 1 = 3
      · have hr := h.r
        have hb := h.b
        have hnum := rdNum_any rb s 0 1 w h.rd
        rw [show nmE s 0 1 = _ from nm_ok s 1 (by decide) (by decide), if_pos (by omega), h3] at hnum
        have HR := Lib.hid (show pItem (d + 1) s = pList (pItem d) (nmS s 0 1) by rw [pItem, if_neg hz, h3]; rfl)
        have Hnum := Lib.hid hnum
        have IH := Lib.hid (ih (by omega))
        have hd' : (((d + 1 : Nat) : Int) == 0) = false := by rw [beq_eq_false_iff_ne]; omega
        clear ih hnum h3 hz
        generalize nmS s 0 1 = s1 at Hnum HR
        have hend := endOf_zero s1
        go_enter Tryd.func30, Tryd.ntmps30
        go_wp2_with fail
        refine Hnum.out.mono ?_
        rintro r w1 ⟨rfl, hr1, ht1⟩
        obtain ⟨h1, ht1⟩ := h.read hr1 ht1
        have hr := h1.r
        have hb := h1.b
        go_wp2_with fail
        refine (end_any rb _ 0 _ h1.rd).mono ?_
        rintro r w' ⟨rfl, rfl⟩
        go_wp2_with fail
        refine (list_any db rb s1 d _ h1 (by omega) IH.out).mono ?_
        rintro r w2 ⟨v, rfl, hv, ht2, hres⟩
        have Hres := Lib.hid hres
        clear hr hb hres hend
        have hsz := ht1.size
        rcases hv with rfl | ⟨T, u, rfl⟩
        all_goals
          go_wp2
          go_ret
          rw [HR.out]
          refine ⟨_, rfl, ?_, ht1.trans ht2, ?_⟩
          · first | exact .inl rfl | exact .inr ⟨_, _, rfl⟩
          · have hres := Hres.out
            revert hres
            cases pList (pItem d) s1 with
            | error er => exact fun h => h
            | ok r => exact fun h => ⟨h.1.mono (fun b hb _ => by omega), h.2⟩
      · exact item_leaf db rb s _ w h (by omega) (.inr (.inr h3))

/-- Decode's error. -/
def decR (s : ByteArray) : Int := match pItem 8 s with | .ok (_, q) => if q.size = 0 then 0 else 2 | .error e => e
/-- What Decode leaves. -/
def DecodePost (s : ByteArray) (w : World) (e : Ending) (w' : World) : Prop :=
  Below w.heap.size w w' ∧ ((∃ t v q, pItem 8 s = .ok (t, q) ∧ decR s = 0 ∧ e = .returned (.tuple #[v, .int .i64 0]) ∧ Itm w' (w.heap.size ≤ ·) v t) ∨ (decR s ≠ 0 ∧ e = .returned (.tuple #[.nilIface, .int .i64 (decR s)])))

theorem dec_new {w w1 : World} {s : ByteArray} (hr : Rd w1 w.heap.size s 0) : Dec (w1.alloc (.cells #[.pointer (some ⟨w.heap.size, 0, none⟩), .bool false] 80)) w1.heap.size w.heap.size s false 0 :=
  ⟨heap_alloc_new _ _, (Touch.alloc (S := fun _ => False) _ _).heap hr (fun h => h)⟩

set_option maxRecDepth 100000 in
set_option maxHeartbeats 1000000 in
theorem decode_any (s : ByteArray) (w : World) :
    Calls Tryd.prog 12 #[.string s] w (DecodePost s w) := by
  go_enter Tryd.func12, Tryd.ntmps12
  go_wp2_with fail
  refine (read_any s _).mono ?_
  rintro r w1 ⟨rfl, hr1, ht1⟩
  go_wp2_with fail
  have hd := dec_new hr1
  have ht2 : Touch (fun _ => False) w (w1.alloc (.cells #[.pointer (some ⟨w.heap.size, 0, none⟩), .bool false] 80)) := ht1.trans (Touch.alloc _ _)
  have hsz := ht1.size
  have hdb : w.heap.size ≤ w1.heap.size := hsz
  have hlt : w1.heap.size < (w1.alloc (.cells #[.pointer (some ⟨w.heap.size, 0, none⟩), .bool false] 80)).heap.size := by simp
  generalize (w1.alloc (.cells #[.pointer (some ⟨w.heap.size, 0, none⟩), .bool false] 80)) = w2 at hd ht2 hlt ⊢
  generalize w1.heap.size = db at hd hdb hlt ⊢
  refine (item_any db w.heap.size 8 (by decide) s _ hd).mono ?_
  rintro r w3 ⟨v, rfl, hv, ht3, hres⟩
  have hb3 : Below w.heap.size w w3 := (ht2.then ht3 (fun i hi => .inr (by rcases hi with e | e <;> omega))).below (fun i h => h.elim) (Nat.le_refl _)
  have Hb3 := Lib.hid hb3
  have hsz2 := ht2.size
  clear hb3 ht3 ht2 hr1 ht1
  cases hp : pItem 8 s with
  | ok r =>
    obtain ⟨t, q⟩ := r
    rw [hp] at hres
    obtain ⟨hit, hd3⟩ := hres
    have hr := hd3.r
    have hb := hd3.b
    obtain ⟨T, u, rfl⟩ := hit.one
    have Hit := Lib.hid (hit.mono (ok' := (w.heap.size ≤ ·)) (fun b h _ => by omega))
    have Hp := Lib.hid hp
    clear hit hp hv
    by_cases hq : q.size = 0
    · have HR := Lib.hid (show decR s = 0 by unfold decR; rw [Hp.out]; exact if_pos hq)
      have he : endOf q 0 = 0 := by unfold endOf; rw [if_pos rfl, if_pos hq]
      clear hq
      go_wp2_with fail
      refine (end_any _ q 0 _ hd3.rd).mono ?_
      rintro r w4 ⟨rfl, rfl⟩
      rw [he]
      clear he
      go_wp2
      go_ret2
      exact ⟨Hb3.out, .inl ⟨t, _, q, Hp.out, HR.out, rfl, Hit.out⟩⟩
    · have HR := Lib.hid (show decR s = 2 by unfold decR; rw [Hp.out]; exact if_neg hq)
      have he : endOf q 0 = 2 := by unfold endOf; rw [if_pos rfl, if_neg hq]
      clear hq
      go_wp2_with fail
      refine (end_any _ q 0 _ hd3.rd).mono ?_
      rintro r w4 ⟨rfl, rfl⟩
      rw [he]
      clear he
      go_wp2
      go_ret2
      exact ⟨Hb3.out, .inr ⟨by rw [HR.out]; decide, by rw [HR.out]; rfl⟩⟩
  | error er =>
    rw [hp] at hres
    obtain ⟨s', b, e', hd3, hf⟩ := hres
    have HR := Lib.hid (show decR s = er by unfold decR; rw [hp])
    have hr := hd3.r
    have hb := hd3.b
    clear hp
    have hv : (v = .nilIface ∨ ∃ T u, v = .iface T u) := hv
    rcases hf with ⟨rfl, rfl⟩ | ⟨rfl, ⟨rfl, rfl⟩ | rfl⟩
    · have he : endOf s' 3 = 3 := rfl
      rcases hv with rfl | ⟨T, u, rfl⟩ <;> cases b
      all_goals
        go_wp2_with fail
        refine (end_any _ s' 3 _ hd3.rd).mono ?_
        rintro r w4 ⟨rfl, rfl⟩
        rw [he]
        go_wp2
        go_ret2
        exact ⟨Hb3.out, .inr ⟨by rw [HR.out]; decide, by rw [HR.out]; rfl⟩⟩
    · have he : endOf s' 0 = 0 ∨ endOf s' 0 = 2 := by
        unfold endOf
        rw [if_pos rfl]
        by_cases h : s'.size = 0
        · exact .inl (if_pos h)
        · exact .inr (if_neg h)
      rcases hv with rfl | ⟨T, u, rfl⟩ <;> rcases he with he | he
      all_goals
        go_wp2_with fail
        refine (end_any _ s' 0 _ hd3.rd).mono ?_
        rintro r w4 ⟨rfl, rfl⟩
        rw [he]
        clear he
        go_wp2
        go_ret2
        exact ⟨Hb3.out, .inr ⟨by rw [HR.out]; decide, by rw [HR.out]; rfl⟩⟩
    · have he : endOf s' 4 = 4 := rfl
      rcases hv with rfl | ⟨T, u, rfl⟩ <;> cases b
      all_goals
        go_wp2_with fail
        refine (end_any _ s' 4 _ hd3.rd).mono ?_
        rintro r w4 ⟨rfl, rfl⟩
        rw [he]
        go_wp2
        go_ret2
        exact ⟨Hb3.out, .inr ⟨by rw [HR.out]; decide, by rw [HR.out]; rfl⟩⟩

end Go.Proofs.YtkjekofllfkgoaaDoor
