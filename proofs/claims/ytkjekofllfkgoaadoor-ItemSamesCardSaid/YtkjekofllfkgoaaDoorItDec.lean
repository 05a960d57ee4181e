/- item.Decode and what it stands on: what is read, or why not. Conditions: none. -/
import Derived.Test.YtkjekofllfkgoaaDoorItMake
import Derived.Test.YtkjekofllfkgoaaDoorReader
namespace Go.Proofs.YtkjekofllfkgoaaDoor
open Go.RowKit

/-- int64 of a uint64. -/
def s64 (n : Nat) : Int := wrap64 (n : Int)

def pMany (p : ByteArray → Except Int (IT × ByteArray)) : Nat → ByteArray → Except Int (List IT × ByteArray)
  | 0, s => .ok ([], s)
  | n + 1, s => match p s with
    | .error e => .error e
    | .ok (t, s') => match pMany p n s' with
      | .error e => .error e
      | .ok (l, s'') => .ok (t :: l, s'')
/-- What of a list. -/
def pList (p : ByteArray → Except Int (IT × ByteArray)) (s : ByteArray) : Except Int (IT × ByteArray) :=
  if s.size < 2 then .error 3
  else if 256 < nmN s 0 2 then .error 4
  else match pMany p (nmN s 0 2) (nmS s 0 2) with
    | .error e => .error e
    | .ok (l, s') => .ok (.list l, s')
/-- What an item's bytes give: the item and what is left, or the error. -/
def pItem : Nat → ByteArray → Except Int (IT × ByteArray)
  | 0, _ => .error 4
  | d + 1, s =>
    if s.size < 1 then .error 3
    else if nmN s 0 1 = 1 then if (nmS s 0 1).size < 8 then .error 3 else .ok (.num (s64 (nmN (nmS s 0 1) 0 8)), nmS (nmS s 0 1) 0 8)
    else if nmN s 0 1 = 2 then if txE (nmS s 0 1) 0 = 0 then .ok (.text (txT (nmS s 0 1) 0), txS (nmS s 0 1) 0) else .error (txE (nmS s 0 1) 0)
    else if nmN s 0 1 = 3 then pList (pItem d) (nmS s 0 1)
    else .error 4

/-- Block db is a decoder over the reader in block rb. -/
structure Dec (w : World) (db rb : Nat) (s : ByteArray) (b : Bool) (e : Int) : Prop where
  blk : w.heap[db]? = some (.cells #[.pointer (some ⟨rb, 0, none⟩), .bool b] 80)
  rd : Rd w rb s e

theorem Dec.ne {w : World} {db rb : Nat} {s : ByteArray} {b : Bool} {e : Int} (h : Dec w db rb s b e) : db ≠ rb := by
  intro he
  have h1 := h.blk
  have h2 := h.rd
  unfold Rd at h2
  rw [he, h2] at h1
  injection h1 with h1
  injection h1 with _ h3 _
  exact absurd h3 (by decide)
theorem Dec.r {w : World} {db rb : Nat} {s : ByteArray} {b : Bool} {e : Int} (h : Dec w db rb s b e) : w.cell? ⟨db, 0, none⟩ = some (.pointer (some ⟨rb, 0, none⟩)) := by rw [cell_of_row w db 0 _ _ _ h.blk]; rfl
theorem Dec.b {w : World} {db rb : Nat} {s : ByteArray} {b : Bool} {e : Int} (h : Dec w db rb s b e) : w.cell? ⟨db, 1, none⟩ = some (.bool b) := by rw [cell_of_row w db 1 _ _ _ h.blk]; rfl
theorem Dec.fr {w : World} {db rb : Nat} {s : ByteArray} {b : Bool} {e : Int} (h : Dec w db rb s b e) (i : Nat) : w.frozen? ⟨db, i, none⟩ = false := frozen_of_row w db i _ _ h.blk
theorem Dec.lt {w : World} {db rb : Nat} {s : ByteArray} {b : Bool} {e : Int} (h : Dec w db rb s b e) : db < w.heap.size ∧ rb < w.heap.size :=
  ⟨(Array.getElem?_eq_some_iff.1 h.blk).1, (Array.getElem?_eq_some_iff.1 h.rd).1⟩
/-- What the decoder's steps touch. -/
def DecS (db rb : Nat) : Nat → Prop := fun k => k = db ∨ k = rb
theorem Dec.read {w w' : World} {db rb : Nat} {s s' : ByteArray} {b : Bool} {e e' : Int} (h : Dec w db rb s b e) (hr : Rd w' rb s' e') (ht : Touch (· = rb) w w') : Dec w' db rb s' b e' ∧ Touch (DecS db rb) w w' :=
  ⟨⟨ht.heap h.blk h.ne, hr⟩, ht.mono fun _ hi => .inl (.inr hi)⟩
theorem Dec.set {w : World} {db rb : Nat} {s : ByteArray} {b : Bool} {e : Int} (h : Dec w db rb s b e) (b' : Bool) : Dec (w.setCell ⟨db, 1, none⟩ (.bool b')) db rb s b' e ∧ Touch (DecS db rb) w (w.setCell ⟨db, 1, none⟩ (.bool b')) :=
  ⟨⟨heap_setCell_same w db 1 _ _ _ h.blk, (Touch.setCell (S := (· = db)) w ⟨db, 1, none⟩ (.bool b') rfl).heap h.rd (fun e => h.ne e.symm)⟩, Touch.setCell _ _ _ (.inl rfl)⟩
theorem Dec.touch {w w' : World} {db rb : Nat} {s : ByteArray} {b : Bool} {e : Int} {S : Nat → Prop} (h : Dec w db rb s b e) (ht : Touch S w w') (h1 : ¬ S db) (h2 : ¬ S rb) : Dec w' db rb s b e :=
  ⟨ht.heap h.blk h1, h.rd.touch ht h2⟩

/-- How the state tells an error. -/
def Failed (er : Int) (b : Bool) (e : Int) : Prop := (er = 3 ∧ e = 3) ∨ (er = 4 ∧ ((b = true ∧ e = 0) ∨ e = 4))

/-- A value of an interface type. -/
def IfV (v : Value) : Prop := v = .nilIface ∨ ∃ T u, v = .iface T u

/-- What item and list leave, the decoder having been without fault. -/
def ItemPost (db rb : Nat) (r : Except Int (IT × ByteArray)) (w : World) (e : Ending) (w' : World) : Prop :=
  ∃ v, e = .returned v ∧ IfV v ∧ Touch (DecS db rb) w w' ∧ match r with
    | .ok (t, s') => Itm w' (w.heap.size ≤ ·) v t ∧ Dec w' db rb s' false 0
    | .error er => ∃ s' b e', Dec w' db rb s' b e' ∧ Failed er b e'

theorem endOf_zero (s : ByteArray) : (endOf s 0 == 3) = false := by
  unfold endOf
  rw [if_pos rfl]
  by_cases h : s.size = 0
  · rw [if_pos h]; decide
  · rw [if_neg h]; decide

theorem short_any (db rb : Nat) (s : ByteArray) (b : Bool) (e : Int) (w : World) (h : Dec w db rb s b e) :
    Calls Tryd.prog 50 #[.pointer (some ⟨db, 0, none⟩)] w fun r w' => r = .returned (.bool (endOf s e == 3)) ∧ w = w' := by
  have hr := h.r
  go_enter Tryd.func50, Tryd.ntmps50
  go_wp2_with fail
  refine (end_any rb s e _ h.rd).mono ?_
  rintro r w' ⟨rfl, rfl⟩
  go_wp2
  go_ret
  exact ⟨rfl, rfl⟩

/-- item, behind a text that may not be. -/
theorem item_formed (db rb : Nat) (s : ByteArray) (d : Nat) (w : World) (h : Dec w db rb s false 4) (hd : d ≤ 100) :
    Calls Tryd.prog 30 #[.pointer (some ⟨db, 0, none⟩), .int .i64 d] w fun r w' => r = .returned .nilIface ∧ Touch (DecS db rb) w w' ∧ ∃ s', Dec w' db rb s' true 4 := by
  have hr := h.r
  have hb := h.b
  have hf := h.fr 1
  by_cases hd0 : d = 0
  · subst hd0
    go_enter Tryd.func30, Tryd.ntmps30
    go_wp2_with fail
    go_ret
    exact ⟨rfl, (h.set true).2, s, (h.set true).1⟩
  · have hd' : ((d : Int) == 0) = false := by rw [beq_eq_false_iff_ne]; omega
    have hn : nmN s 4 1 = 0 := by simp [nmN, tkT]; rfl
    have he : nmE s 4 1 = 4 := by simp [nmE, tkE]
    have hs : nmS s 4 1 = s := by simp [nmS, tkS]
    have hnum := rdNum_any rb s 4 1 w h.rd
    rw [hn, he, hs] at hnum
    have Hnum := Lib.hid hnum
    clear hn he hs hnum hd0
    go_enter Tryd.func30, Tryd.ntmps30
    go_wp2_with fail
    refine Hnum.out.mono ?_
    rintro r w1 ⟨rfl, hr1, ht1⟩
    obtain ⟨h1, ht1⟩ := h.read hr1 ht1
    have hr := h1.r
    have hb := h1.b
    have hf := h1.fr 1
    go_wp2_with fail
    refine (end_any rb s 4 _ h1.rd).mono ?_
    rintro r w' ⟨rfl, rfl⟩
    have hend : endOf s 4 = 4 := rfl
    rw [hend]
    clear hend
    go_wp2
    go_ret
    exact ⟨rfl, ht1.trans (h1.set true).2, s, (h1.set true).1⟩

theorem txE_form (s : ByteArray) : txE s 0 = 0 ∨ txE s 0 = 3 ∨ txE s 0 = 4 := by
  have h2 : nmE s 0 2 = 0 ∨ nmE s 0 2 = 3 := by
    unfold nmE tkE
    rw [if_pos (by decide), if_pos rfl]
    by_cases h : (2 : Int).toNat ≤ s.size
    · rw [if_pos h]; exact .inl rfl
    · rw [if_neg h]; exact .inr rfl
  unfold txE
  split
  · unfold fxE tkE
    rw [if_pos (by omega)]
    rcases h2 with h | h
    · rw [h, if_pos rfl]; split
      · exact .inl rfl
      · exact .inr (.inl rfl)
    · rw [h, if_neg (by decide)]; exact .inr (.inl rfl)
  · rcases h2 with h | h
    · rw [h]; exact .inr (.inr rfl)
    · rw [h]; exact .inr (.inl rfl)

theorem nm_ok (s : ByteArray) (z : Nat) (h1 : 1 ≤ z) (h8 : z ≤ 8) : nmE s 0 z = if z ≤ s.size then 0 else 3 := by
  unfold nmE tkE
  rw [if_pos (by omega), if_pos rfl, Int.toNat_natCast]

set_option maxRecDepth 100000 in
set_option maxHeartbeats 1000000 in
/-- item, but for a list. -/
theorem item_leaf (db rb : Nat) (s : ByteArray) (d : Nat) (w : World) (h : Dec w db rb s false 0) (hd : d ≤ 100) (h3 : d = 0 ∨ s.size < 1 ∨ nmN s 0 1 ≠ 3) :
    Calls Tryd.prog 30 #[.pointer (some ⟨db, 0, none⟩), .int .i64 d] w (ItemPost db rb (pItem d s) w) := by
  have hr := h.r
  have hb := h.b
  have hf := h.fr 1
  by_cases hd0 : d = 0
  · subst hd0
    rw [pItem]
    go_enter Tryd.func30, Tryd.ntmps30
    go_wp2_with fail
    go_ret
    exact ⟨_, rfl, .inl rfl, (h.set true).2, s, true, 0, (h.set true).1, .inr ⟨rfl, .inl ⟨rfl, rfl⟩⟩⟩
  · obtain ⟨d, rfl⟩ : ∃ k, d = k + 1 := ⟨d - 1, by omega⟩
    have hd' : (((d + 1 : Nat) : Int) == 0) = false := by rw [beq_eq_false_iff_ne]; omega
    have hnum := rdNum_any rb s 0 1 w h.rd
    rw [show nmE s 0 1 = _ from nm_ok s 1 (by decide) (by decide)] at hnum
    rw [pItem]
    by_cases hz : s.size < 1
    · rw [if_pos hz]
      rw [if_neg (by omega)] at hnum
      have Hnum := Lib.hid hnum
      clear hnum hd0 h3
      go_enter Tryd.func30, Tryd.ntmps30
      go_wp2_with fail
      refine Hnum.out.mono ?_
      rintro r w1 ⟨rfl, hr1, ht1⟩
      obtain ⟨h1, ht1⟩ := h.read hr1 ht1
      have hr := h1.r
      go_wp2_with fail
      refine (end_any rb _ 3 _ h1.rd).mono ?_
      rintro r w' ⟨rfl, rfl⟩
      have hend : endOf (nmS s 0 1) 3 = 3 := rfl
      rw [hend]
      clear hend
      go_wp2
      go_ret
      exact ⟨_, rfl, .inl rfl, ht1, _, false, 3, h1, .inl ⟨rfl, rfl⟩⟩
    · rw [if_neg hz]
      rw [if_pos (by omega)] at hnum
      have Hnum := Lib.hid hnum
      have h3' : nmN s 0 1 ≠ 3 := by omega
      clear hnum hd0 h3 hz
      generalize nmN s 0 1 = kind at Hnum h3' ⊢
      generalize nmS s 0 1 = s1 at Hnum ⊢
      have hend := endOf_zero s1
      obtain ⟨R, hR⟩ : ∃ R, R = (if kind = 1 then (if s1.size < 8 then Except.error 3 else Except.ok (IT.num (s64 (nmN s1 0 8)), nmS s1 0 8)) else if kind = 2 then if txE s1 0 = 0 then Except.ok (IT.text (txT s1 0), txS s1 0) else Except.error (txE s1 0) else if kind = 3 then pList (pItem d) s1 else Except.error 4) := ⟨_, rfl⟩
      rw [← hR]
      have HR := Lib.hid hR
      clear hR
      go_enter Tryd.func30, Tryd.ntmps30
      go_wp2_with fail
      refine Hnum.out.mono ?_
      rintro r w1 ⟨rfl, hr1, ht1⟩
      obtain ⟨h1, ht1⟩ := h.read hr1 ht1
      have hr := h1.r
      have hb := h1.b
      have hf := h1.fr 1
      go_wp2_with fail
      refine (end_any rb _ 0 _ h1.rd).mono ?_
      rintro r w' ⟨rfl, rfl⟩
      by_cases hk1 : kind = 1
      · subst hk1
        have HR2 := HR.out
        rw [if_pos rfl] at HR2
        have HR3 := Lib.hid HR2; clear HR2
        have hnum := rdNum_any rb s1 0 8 w1 h1.rd
        rw [show nmE s1 0 8 = _ from nm_ok s1 8 (by decide) (by decide)] at hnum
        have Hnum2 := Lib.hid hnum
        clear hnum
        go_wp2_with fail
        refine Hnum2.out.mono ?_
        rintro r w2 ⟨rfl, hr2, ht2⟩
        obtain ⟨h2, ht2⟩ := h1.read hr2 ht2
        generalize nmN s1 0 8 = v at h2 HR3 ⊢
        clear hr hb hf hend
        go_wp2
        go_ret
        refine ⟨_, rfl, .inr ⟨_, _, rfl⟩, ht1.trans ht2, ?_⟩
        rw [HR3.out]
        by_cases h8 : s1.size < 8
        · rw [if_pos h8]
          rw [if_neg (by omega)] at h2
          exact ⟨_, _, _, h2, .inl ⟨rfl, rfl⟩⟩
        · rw [if_neg h8]
          rw [if_pos (by omega)] at h2
          exact ⟨Itm.num_eq.2 rfl, h2⟩
      · have HR2 := HR.out
        rw [if_neg hk1] at HR2
        by_cases hk2 : kind = 2
        · subst hk2
          rw [if_pos rfl] at HR2
          have HR3 := Lib.hid HR2; clear HR2
          have hk1' : (((2 : Nat) : Int) == 1) = false := by decide
          have hk1' : (((2 : Nat) : Int) == 2) = true := by decide
          have htx := txE_form s1
          go_wp2_with fail
          refine (text_any rb s1 0 _ h1.rd).mono ?_
          rintro r w2 ⟨rfl, hr2, ht2⟩
          obtain ⟨h2, ht2⟩ := h1.read hr2 ht2
          generalize txT s1 0 = tx at h2 HR3 ⊢
          generalize txS s1 0 = ts at h2 HR3 ⊢
          generalize txE s1 0 = te at h2 htx HR3 ⊢
          clear hr hb hf hend
          go_wp2
          go_ret
          refine ⟨_, rfl, .inr ⟨_, _, rfl⟩, ht1.trans ht2, ?_⟩
          rw [HR3.out]
          rcases htx with rfl | rfl | rfl
          · exact ⟨Itm.text_eq.2 rfl, h2⟩
          · exact ⟨_, _, _, h2, .inl ⟨rfl, rfl⟩⟩
          · exact ⟨_, _, _, h2, .inr ⟨rfl, .inr rfl⟩⟩
        · rw [if_neg hk2, if_neg h3'] at HR2
          have HR3 := Lib.hid HR2; clear HR2
          have e1 : ((kind : Int) == 1) = false := by rw [beq_eq_false_iff_ne]; omega
          have e2 : ((kind : Int) == 2) = false := by rw [beq_eq_false_iff_ne]; omega
          have e3 : ((kind : Int) == 3) = false := by rw [beq_eq_false_iff_ne]; omega
          clear hk1 hk2 h3'
          go_wp2_with fail
          go_ret
          rw [HR3.out]
          exact ⟨_, rfl, .inl rfl, ht1.trans (h1.set true).2, s1, true, 0, (h1.set true).1, .inr ⟨rfl, .inl ⟨rfl, rfl⟩⟩⟩

/-- What is known at the head of list's loop: n items are still wanted. -/
def ListRel (p : ByteArray → Except Int (IT × ByteArray)) (db rb N : Nat) (s : ByteArray) (w : World) (n : Nat) (out : Value) (W : World) : Prop :=
  ∃ (m : Nat) (xs : List Value), m + n ≤ N ∧ W.ownsRow w.heap.size 24 1 out m xs ∧ Touch (DecS db rb) w W ∧
    ((∃ done s', ItmL W (fun b => w.heap.size ≤ b ∧ out.ownBlock ≠ some b) xs done ∧ done.length = m ∧ Dec W db rb s' false 0 ∧ pMany p N s = (match pMany p n s' with | .error e => .error e | .ok (l, q) => .ok (done ++ l, q))) ∨
     (∃ er s' b e, Dec W db rb s' b e ∧ Failed er b e ∧ pMany p N s = .error er))

theorem list_step {p : ByteArray → Except Int (IT × ByteArray)} {db rb N k m : Nat} {s : ByteArray} {w W W1 W2 : World} {out out' v : Value} {xs : List Value} (hlt : db < w.heap.size ∧ rb < w.heap.size) (hmk : m + (k + 1) ≤ N)
    (hown : W.ownsRow w.heap.size 24 1 out m xs) (ht : Touch (DecS db rb) w W) (ht1 : Touch (DecS db rb) W W1)
    (hown2 : W2.ownsRow w.heap.size 24 1 out' (m + 1) (xs ++ [v])) (hg2 : W1.grownBy W2 out.ownBlock) (hn2 : NewOrSame W1 out out')
    (hst : (∃ done s', ItmL W (fun b => w.heap.size ≤ b ∧ out.ownBlock ≠ some b) xs done ∧ done.length = m ∧ pMany p N s = (match pMany p (k + 1) s' with | .error e => .error e | .ok (l, q) => .ok (done ++ l, q)) ∧ (match p s' with | .ok (t, s'') => Itm W1 (W.heap.size ≤ ·) v t ∧ Dec W1 db rb s'' false 0 | .error er => ∃ s' b e', Dec W1 db rb s' b e' ∧ Failed er b e')) ∨
      (∃ er s' b e, Dec W1 db rb s' b e ∧ Failed er b e ∧ pMany p N s = .error er)) : ListRel p db rb N s w k out' W2 := by
  have own_lt : ∀ j, out.ownBlock = some j → w.heap.size ≤ j ∧ j < W.heap.size := fun j hj => hown.lt j hj
  have s0 := ht.size
  have s1 := ht1.size
  have s2 := hg2.size
  have hlen : xs.length = m := by have := hown.1; omega
  have tg := Touch.grown hg2
  have hdb : ¬ (some db = out.ownBlock) := fun e => by have := own_lt db e.symm; omega
  have hrb : ¬ (some rb = out.ownBlock) := fun e => by have := own_lt rb e.symm; omega
  have ht2 : Touch (DecS db rb) w W2 := (ht.trans ht1).then tg (fun i hi => .inr (own_lt i hi.symm).1)
  refine ⟨m + 1, xs ++ [v], by omega, hown2, ht2, ?_⟩
  have bad : (∃ er s' b e, Dec W1 db rb s' b e ∧ Failed er b e ∧ pMany p N s = .error er) → (∃ er s' b e, Dec W2 db rb s' b e ∧ Failed er b e ∧ pMany p N s = .error er) := by
    rintro ⟨er, s', b, e, hd, hf, hp⟩
    exact ⟨er, s', b, e, hd.touch tg hdb hrb, hf, hp⟩
  rcases hst with ⟨done, s', hit, hdl, hp, hres⟩ | hbad
  · rw [pMany] at hp
    cases hps : p s' with
    | error er =>
      rw [hps] at hp hres
      obtain ⟨s'', b, e', hd, hf⟩ := hres
      exact .inr (bad ⟨er, s'', b, e', hd, hf, hp⟩)
    | ok r =>
      obtain ⟨t, s''⟩ := r
      rw [hps] at hp hres
      obtain ⟨hv, hd⟩ := hres
      refine .inl ⟨done ++ [t], s'', ?_, by rw [List.length_append, hdl]; rfl, hd.touch tg hdb hrb, ?_⟩
      · have i1 : ItmL W1 (fun b => w.heap.size ≤ b ∧ out.ownBlock ≠ some b) xs done := ItmL.touch hit ht1 (fun b hb _ hs => by rcases hs with e | e <;> omega)
        have y1 : Itm W1 (fun b => w.heap.size ≤ b ∧ out.ownBlock ≠ some b) v t := hv.mono (fun b hb _ => ⟨by omega, fun e => by have := own_lt b e; omega⟩)
        refine ItmL.carry s2 (fun b j hb hl => World.cell?_of_block (w := W1) (w' := W2) (a := ⟨b, j, none⟩) (hg2.block b hl (fun e => hb.2 e.symm))) (fun b hb hl => ⟨hb.1, fun e => ?_⟩) _ _ (ItmL.snoc y1 (by omega) i1)
        rcases hn2 with hn | hn
        · exact hb.2 (by rw [← hn]; exact e)
        · have := hn b e; omega
      · rw [hp]
        dsimp only
        cases pMany p k s'' with
        | error e => rfl
        | ok r => obtain ⟨l, q⟩ := r; simp
  · exact .inr (bad hbad)

theorem list_done {w W : World} {out : Value} {m : Nat} {xs : List Value} {done : List IT} (hown : W.ownsRow w.heap.size 24 1 out m xs) (hit : ItmL W (fun b => w.heap.size ≤ b ∧ out.ownBlock ≠ some b) xs done) (hdl : done.length = m) (hm : m ≤ 256) : Itm W (w.heap.size ≤ ·) (.iface 85 out) (.list done) := by
  have hlen : xs.length = m := by have := hown.1; omega
  obtain ⟨a, c, rfl⟩ := own_shape hown
  rw [Itm.list_eq]
  refine ⟨a, c, xs, by rw [hdl], by omega, by omega, fun hne => ?_, hit.mono (fun b hb _ => hb.1)⟩
  obtain ⟨g, c', hv, hb, hg, _, hc⟩ := own_open hown (by intro e; exact hne (List.eq_nil_of_length_eq_zero (by omega)))
  injection hv with e1 _ _
  exact ⟨g, e1, hg, hb, hc⟩

set_option maxRecDepth 100000 in
set_option maxHeartbeats 2000000 in
theorem list_any (db rb : Nat) (s : ByteArray) (d : Nat) (w : World) (h : Dec w db rb s false 0) (hd : d ≤ 99)
    (ih : ∀ (s : ByteArray) (w : World), Dec w db rb s false 0 → Calls Tryd.prog 30 #[.pointer (some ⟨db, 0, none⟩), .int .i64 d] w (ItemPost db rb (pItem d s) w)) :
    Calls Tryd.prog 41 #[.pointer (some ⟨db, 0, none⟩), .int .i64 ((d : Int) + 1)] w (ItemPost db rb (pList (pItem d) s) w) := by
  have hr := h.r
  have hb := h.b
  have hf := h.fr 1
  have hnum := rdNum_any rb s 0 2 w h.rd
  rw [show nmE s 0 2 = _ from nm_ok s 2 (by decide) (by decide)] at hnum
  have IH := Lib.hid ih
  clear ih
  by_cases hz : s.size < 2
  · have HR := Lib.hid (show pList (pItem d) s = .error 3 from if_pos hz)
    have hn0 : nmN s 0 2 = 0 := by
      unfold nmN tkT
      rw [if_pos (by decide), if_neg (by intro h; have : (2 : Int).toNat = 2 := rfl; omega)]; rfl
    rw [if_neg (by omega), hn0] at hnum
    have Hnum := Lib.hid hnum
    clear hnum hz hn0
    go_enter Tryd.func41, Tryd.ntmps41
    go_wp2_with fail
    refine Hnum.out.mono ?_
    rintro r w1 ⟨rfl, hr1, ht1⟩
    obtain ⟨h1, ht1⟩ := h.read hr1 ht1
    go_wp2_with fail
    refine wp_loop_rounds 1 ?_
    rw [rounds_succ]
    go_wp2
    go_ret
    rw [HR.out]
    exact ⟨_, rfl, .inr ⟨_, _, rfl⟩, ht1, _, _, _, h1, .inl ⟨rfl, rfl⟩⟩
  · by_cases h256 : 256 < nmN s 0 2
    · have HR := Lib.hid (show pList (pItem d) s = .error 4 by unfold pList; rw [if_neg hz, if_pos h256])
      have hn64 : nmN s 0 2 < 65536 := by
        unfold nmN
        rw [if_pos (by decide)]
        have h1 := numTo_bd (tkT s 0 (2 : Int).toNat) (tkT s 0 (2 : Int).toNat).size
        have h2 := tkT_size s 0 (2 : Int).toNat
        have h3 : 256 ^ (tkT s 0 (2 : Int).toNat).size ≤ 256 ^ 2 := Nat.pow_le_pow_right (by decide) h2
        have h4 : (256 : Nat) ^ 2 = 65536 := by decide
        omega
      rw [if_pos (by omega)] at hnum
      have Hnum := Lib.hid hnum
      clear hnum hz
      generalize nmN s 0 2 = n at Hnum h256 hn64
      have hgt : decide ((256 : Int) < (n : Int)) = true := by simp; omega
      have hgt0 : 0 < n := by omega
      clear h256
      go_enter Tryd.func41, Tryd.ntmps41
      go_wp2_with fail
      refine Hnum.out.mono ?_
      rintro r w1 ⟨rfl, hr1, ht1⟩
      obtain ⟨h1, ht1⟩ := h.read hr1 ht1
      have hr := h1.r
      have hb := h1.b
      have hf := h1.fr 1
      go_wp2_with fail
      have h2 := (h1.set true).1
      have ht2 := ht1.trans (h1.set true).2
      generalize (w1.setCell ⟨db, 1, none⟩ (.bool true)) = w2 at h2 ht2 ⊢
      have hr := h2.r
      have hb := h2.b
      refine wp_loop_rounds 1 ?_
      rw [rounds_succ]
      go_wp2
      go_ret
      rw [HR.out]
      exact ⟨_, rfl, .inr ⟨_, _, rfl⟩, ht2, _, _, _, h2, .inr ⟨rfl, .inl ⟨rfl, rfl⟩⟩⟩
    · have HR := Lib.hid (show pList (pItem d) s = (match pMany (pItem d) (nmN s 0 2) (nmS s 0 2) with | .error e => .error e | .ok (l, s') => .ok (.list l, s')) by unfold pList; rw [if_neg hz, if_neg h256])
      rw [if_pos (by omega)] at hnum
      have Hnum := Lib.hid hnum
      clear hnum hz
      generalize nmN s 0 2 = N at Hnum h256 HR
      generalize nmS s 0 2 = s1 at Hnum HR
      have hle : decide ((256 : Int) < (N : Int)) = false := by simp; omega
      go_enter Tryd.func41, Tryd.ntmps41
      go_wp2_with fail
      refine Hnum.out.mono ?_
      rintro r w1 ⟨rfl, hr1, ht1⟩
      obtain ⟨h1, ht1⟩ := h.read hr1 ht1
      clear hr hb hf
      go_wp2_with fail
      clear hle
      have hstart : ListRel (pItem d) db rb N s1 w N (.slice none 0 0) w1 :=
        ⟨0, [], by omega, World.ownsRow_nil _ _ _ _, ht1, .inl ⟨[], s1, by rw [ItmL]; trivial, rfl, h1, by
          cases pMany (pItem d) N s1 with
          | error e => rfl
          | ok r => rfl⟩⟩
      go_loopw [5, 6] (fun n out W => ∃ k : Nat, n = .int .u64 k ∧ ListRel (pItem d) db rb N s1 w k out W) (fun n _ _ => (intOf n).toNat)
      case atStart => exact ⟨N, rfl, hstart⟩
      case round =>
        obtain ⟨k, rfl, m, xs, hmk, hown, ht, hst⟩ := hrel
        have hlt0 := h.lt
        cases k with
        | zero =>
          obtain ⟨a2, c2, rfl⟩ := own_shape hown
          have Hst := Lib.hid hst
          have Hown := Lib.hid hown
          clear hst hown
          go_wp2
          go_ret
          refine ⟨_, rfl, .inr ⟨_, _, rfl⟩, ht, ?_⟩
          rw [HR.out]
          rcases Hst.out with ⟨done, s', hit, hdl, hd, hp⟩ | ⟨er, s', b, e, hd, hf, hp⟩
          · rw [hp, pMany]
            simp only [List.append_nil]
            exact ⟨list_done Hown.out hit hdl (by omega), hd⟩
          · rw [hp]
            exact ⟨s', b, e, hd, hf⟩
        | succ k =>
          rcases hst with ⟨done, s', hit, hdl, hd, hp⟩ | ⟨er, s', b, e, hd, hf, hp⟩
          · have hr := hd.r
            have hb := hd.b
            have hez := endOf_zero s'
            have Hp := Lib.hid hp
            have Hit := Lib.hid hit
            have Hown := Lib.hid hown
            have Hdl := Lib.hid hdl
            clear hp hit hown hdl
            go_wp2_with fail
            refine (short_any db rb s' false 0 _ hd).mono ?_
            rintro r w2 ⟨rfl, rfl⟩
            rw [hez]
            clear hez
            go_wp2_with fail
            refine (IH.out s' _ hd).mono ?_
            rintro r w2 ⟨v, rfl, hv, ht2, hres⟩
            have hown2 := ht2.own Hown.out (fun j hj hs => by
              have := (Hown.out.lt j hj).1
              rcases hs with e | e <;> omega)
            have Hres := Lib.hid hres
            clear hr hb hres
            have hsz := ht.size
            have hsz2 := ht2.size
            have hv1 : v.oneCell' = true := by rcases hv with rfl | ⟨T, u, rfl⟩ <;> rfl
            rcases hv with rfl | ⟨T, u, rfl⟩
            all_goals
              go_wp2_with (at_builtin; refine Hid.out ?_)
              unfold Hid
              refine wpList_appW rfl rfl Tryd.underlying85 Tryd.infoItem rfl 1 hown2 rfl rfl rfl ?_ ?_ ?_ (by omega) ?_
              · simp [Value.oneCell']
              · omega
              · unfold maxLen; omega
              intro v' w3 ho3 hg3 hn3
              have hnext := list_step hlt0 hmk Hown.out ht ht2 ho3 hg3 hn3 (.inl ⟨done, s', Hit.out, Hdl.out, Hp.out, Hres.out⟩)
              obtain ⟨a3, c3, rfl⟩ := own_shape ho3
              clear ho3 hg3 hn3 hown2
              go_wp2
              go_roundw
              case rel => exact ⟨k, by go_num, hnext⟩
              case measure => simp [intOf]
          · have hr := hd.r
            have hb := hd.b
            have HR2 := Lib.hid (show pList (pItem d) s = .error er by rw [HR.out, hp])
            obtain ⟨a2, c2, rfl⟩ := own_shape hown
            have Hp := Lib.hid hp
            have Hown := Lib.hid hown
            clear hp hown
            have fin : ∀ e' b', Dec wr db rb s' b' e' → Failed er b' e' → ItemPost db rb (pList (pItem d) s) w (.returned (.iface 85 (.slice a2 m c2))) wr := fun e' b' hd' hf' => by
              rw [HR2.out]
              exact ⟨_, rfl, .inr ⟨_, _, rfl⟩, ht, s', b', e', hd', hf'⟩
            have Fin := Lib.hid fin
            clear fin
            cases b with
            | true =>
              go_wp2
              go_ret
              exact Fin.out _ _ hd hf
            | false =>
              rcases hf with ⟨rfl, rfl⟩ | ⟨rfl, ⟨h1, _⟩ | rfl⟩
              · go_wp2_with fail
                refine (short_any db rb s' false 3 _ hd).mono ?_
                rintro r w2 ⟨rfl, rfl⟩
                have he3 : (endOf s' 3 == 3) = true := rfl
                rw [he3]
                clear he3
                go_wp2
                go_ret
                exact Fin.out _ _ hd (.inl ⟨rfl, rfl⟩)
              · cases h1
              · go_wp2_with fail
                refine (short_any db rb s' false 4 _ hd).mono ?_
                rintro r w2 ⟨rfl, rfl⟩
                have he3 : (endOf s' 4 == 3) = false := rfl
                rw [he3]
                clear he3
                go_wp2_with fail
                refine (item_formed db rb s' d _ hd (by omega)).mono ?_
                rintro r w2 ⟨rfl, ht2, s2, hd2⟩
                have hown2 := ht2.own Hown.out (fun j hj hs => by
                  have := (Hown.out.lt j hj).1
                  rcases hs with e | e <;> omega)
                have hsz := ht.size
                have hsz2 := ht2.size
                clear hr hb
                go_wp2_with (at_builtin; refine Hid.out ?_)
                unfold Hid
                refine wpList_appW rfl rfl Tryd.underlying85 Tryd.infoItem rfl 1 hown2 rfl rfl rfl ?_ ?_ ?_ (by omega) ?_
                · simp [Value.oneCell']
                · omega
                · unfold maxLen; omega
                intro v' w3 ho3 hg3 hn3
                have hnext := list_step (s := s1) (p := pItem d) hlt0 hmk Hown.out ht ht2 ho3 hg3 hn3 (.inr ⟨4, s2, true, 4, hd2, .inr ⟨rfl, .inr rfl⟩, Hp.out⟩)
                obtain ⟨a3, c3, rfl⟩ := own_shape ho3
                clear ho3 hg3 hn3 hown2
                go_wp2
                go_roundw
                case rel => exact ⟨k, by go_num, hnext⟩
                case measure => simp [intOf]

end Go.Proofs.YtkjekofllfkgoaaDoor
