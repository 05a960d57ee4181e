/- Package logbook: a record of one part is put into an empty book. Conditions: none. | Package logbook: a record of one part is written behind those of a book. Conditions: none. | Package logbook: Put of a record of one part. Conditions: none. | Package signer: a signer of height 0 is opened on sectors of noughts. Conditions: none. | Package signer: the public key, a signature that lasts. Conditions: none. | plumbobtop.signs: one signature that lasts: true. Conditions: none. -/
import Derived.Test.YtcgkomafaepjnaaGreatDoorTB11
import Derived.Test.YtcgkomafaepjnaaGreatDoorTB5
namespace Go.Proofs.YtcgkomafaepjnaaGreatDoor
open Go.RowKit

theorem BookAt.cells {w : World} {b d first sz at' turn nend : Nat} {recs : Value} (h : BookAt w b d first sz at' turn nend recs) :
    w.cell? ⟨b, 0, none⟩ = some (.pointer (some ⟨d, 0, none⟩)) ∧ w.cell? ⟨b, 1, none⟩ = some (.int .i64 first) ∧ w.cell? ⟨b, 2, none⟩ = some (.int .i64 sz) ∧ w.cell? ⟨b, 3, none⟩ = some (.int .i64 at') ∧ w.cell? ⟨b, 4, none⟩ = some (.int .u64 turn) ∧ w.cell? ⟨b, 5, none⟩ = some (.int .i64 nend) ∧ w.cell? ⟨b, 6, none⟩ = some recs ∧ w.cell? ⟨b, 7, none⟩ = some (.bool false) ∧ ∀ i, w.frozen? ⟨b, i, none⟩ = false :=
  ⟨by rw [cell_of_row _ _ 0 _ _ _ h]; rfl, by rw [cell_of_row _ _ 1 _ _ _ h]; rfl, by rw [cell_of_row _ _ 2 _ _ _ h]; rfl, by rw [cell_of_row _ _ 3 _ _ _ h]; rfl, by rw [cell_of_row _ _ 4 _ _ _ h]; rfl, by rw [cell_of_row _ _ 5 _ _ _ h]; rfl, by rw [cell_of_row _ _ 6 _ _ _ h]; rfl, by rw [cell_of_row _ _ 7 _ _ _ h]; rfl, fun i => frozen_of_row _ _ i _ _ h⟩

theorem lrecords_nil (b d first sz at' turn nend : Nat) (w : World) (h : BookAt w b d first sz at' turn nend (.slice none 0 0)) :
    Calls Tryz.prog 114 #[.pointer (some ⟨b, 0, none⟩)] w fun e w' => e = .returned (.slice none 0 0) ∧ w' = w := by
  obtain ⟨_, _, _, _, _, _, y6, _, _⟩ := h.cells
  go_enter Tryz.func114, Tryz.ntmps114
  go_wp2_with fail
  refine (Tryz.slices_Clone_string_nil 0 0 w).mono ?_
  rintro e w' ⟨rfl, rfl⟩
  go_wp2
  go_ret
  exact ⟨rfl, rfl⟩

theorem lleft_any (b d first sz at' turn nend m : Nat) (recs : Value) (w : World) (h : BookAt w b d first sz at' turn nend recs) (hm : nend + m = sz) (h64 : sz < 65536) :
    Calls Tryz.prog 122 #[.pointer (some ⟨b, 0, none⟩)] w fun e w' => e = .returned (.int .i64 m) ∧ Below w.heap.size w w' := by
  obtain ⟨_, _, y2, _, _, y5, _, _, _⟩ := h.cells
  have e1 : IntKind.i64.wrap ((sz : Int) - (nend : Int)) = (m : Int) := by rw [show (sz : Int) - (nend : Int) = (m : Int) by omega]; exact IntWalk.i64_in _ (by omega)
  clear hm h
  go_enter Tryz.func122, Tryz.ntmps122
  go_wp2_with fail
  go_quiet (fail)
  go_wp2
  go_ret
  exact ⟨rfl, below_drewN w nq⟩

theorem lmay_any (b d first sz at' turn nend : Nat) (recs : Value) (s : ByteArray) (hs : s.size ≤ 900) (w : World) (h : BookAt w b d first sz at' turn nend recs) :
    Calls Tryz.prog 181 #[.pointer (some ⟨b, 0, none⟩), .string s] w fun e w' => e = .returned (.int .i64 0) ∧ w' = w := by
  obtain ⟨_, _, _, _, _, _, _, y7, _⟩ := h.cells
  have hle : ¬ ((900 : Int) < (s.size : Int)) := by omega
  clear h
  go_enter Tryz.func181, Tryz.ntmps181
  go_wp2
  go_ret
  exact ⟨rfl, rfl⟩

theorem Tryz.infoPart : (Tryz.prog.info? 310).map (fun i => (i.zero, i.size, i.bytes)) = some (some (.agg #[.int .u64 0, .int .u64 0, .int .i64 0, .int .i64 0, .string .empty, .string .empty]), 6, 64) := by kernel_rfl

set_option maxRecDepth 100000 in
set_option maxHeartbeats 2000000 in
theorem lparts_one (turn num : Nat) (ht : turn < 4294967296) (hn : num < 65536) (s : ByteArray) (hs : s.size ≤ 39) (w : World) (hK : Kon w) :
    Calls Tryz.prog 213 #[.int .u64 turn, .int .u64 num, .string s] w fun e w' => ∃ (v : Value) (nm ct : ByteArray), e = .returned v ∧ nm.size = 8 ∧ ct.size ≤ 39 ∧ w'.ownsRow w.heap.size 310 6 v 1 [.int .u64 turn, .int .u64 num, .int .i64 0, .int .i64 1, .string nm, .string ct] ∧ Below w.heap.size w w' := by
  obtain ⟨i0, hinf, hz0, hz1, hz2⟩ := info_parts Tryz.infoPart
  have hp : ∀ W, Calls Tryz.prog 121 #[.int .i64 s.size] W fun e w' => e = .returned (.int .i64 1) ∧ w' = W := fun W => by
    have := lparts_any s.size (by omega) W
    rw [show partsOf s.size = 1 by unfold partsOf; omega] at this
    exact this
  have hname := lname_any turn num ht hn s (by omega) w hK
  have hmin : min (s.size : Int) 39 = (s.size : Int) := by omega
  go_enter Tryz.func213, Tryz.ntmps213
  go_wp2_with fail
  refine (hp w).mono ?_
  rintro e w1 ⟨rfl, rfl⟩
  go_wp2_with fail
  refine hname.mono ?_
  clear hname hp
  rintro e w2 ⟨⟨nm, rfl, hnm⟩, hb2⟩
  go_wp2_with fail
  refine wp_loop_rounds 2 ?_
  rw [rounds_succ]
  go_wp2_with (at_builtin; refine Hid.out ?_)
  unfold Hid
  have hs2 := hb2.size
  refine wpList_append_own _ rfl _ _ _ rfl w1.heap.size 310 i0 _ 6 64 Tryz.underlying306 hinf hz0 hz1 hz2 rfl (by decide) (.slice none 0 0) 0 [] rfl (World.ownsRow_nil _ _ _ _) ⟨w2.heap.size, 0, none⟩ 1 1 [.int .u64 turn, .int .u64 num, .int .i64 0, .int .i64 1, .string nm, .string s] rfl rfl (World.news_of_block (cs := #[.int .u64 turn, .int .u64 num, .int .i64 0, .int .i64 1, .string nm, .string s]) (t := 310) (fr := (0, 0)) (heap_alloc_new w2 _)) (by simp [Value.oneCell']) (by decide) (by decide) (by simp; omega) ?_
  intro v' w3 ho3 hg3 _
  have hb3 := (hb2.alloc hb2.size (.cells #[.int .u64 turn, .int .u64 num, .int .i64 0, .int .i64 1, .string nm, .string s] 310)).grown hg3 (by simp; omega) (fun j hj => by cases hj)
  clear hmin hinf hz0 hz1 hz2 hg3
  have HO := Lib.hid ho3
  clear ho3
  have hmin : min (s.size : Int) 39 = (s.size : Int) := by omega
  go_wp2_with fail
  rw [rounds_succ]
  go_wp2
  go_ret
  exact ⟨_, nm, s, rfl, hnm, hs, HO.out, hb3⟩

/-- A copy of a list of texts of the call's own. -/
theorem clone_row (R : Nat) (v : Value) (l : List ByteArray) (w : World) (hl : l.length ≤ 65536) (h : w.ownsRow R 9 1 v l.length (strs l)) :
    Calls Tryz.prog 57 #[v] w fun e w' => ∃ v', e = .returned v' ∧ w'.ownsRow w.heap.size 9 1 v' l.length (strs l) ∧ Below w.heap.size w w' := by
  by_cases h0 : l.length = 0
  · have hnil : l = [] := List.length_eq_zero_iff.1 h0
    subst hnil
    rcases h.2 with ⟨rfl, _⟩ | ⟨g, cap, cur, rfl, _, _⟩
    · refine (Tryz.slices_Clone_string_nil 0 0 w).mono ?_
      rintro e w' ⟨rfl, rfl⟩
      exact ⟨_, rfl, World.ownsRow_nil _ _ _ _, Below.refl _ _⟩
    · refine (Tryz.slices_Clone_string_zero ⟨g, 0, none⟩ cap w).mono ?_
      rintro e w' ⟨v', rfl, ho, _, hb⟩
      exact ⟨_, rfl, ho, hb⟩
  · obtain ⟨g, c, rfl, _, _, _, hcell⟩ := own_opened h h0
    refine (Tryz.slices_Clone_string g 0 l.length c l w (Nat.le_refl _) (by omega) ?_).mono ?_
    · intro j hj
      rw [Nat.zero_add]
      exact hcell j _ (by simp [strs, hj])
    · rintro e w' ⟨v', rfl, ho, _, hb⟩
      rw [List.take_length] at ho
      exact ⟨_, rfl, ho, hb⟩

end Go.Proofs.YtcgkomafaepjnaaGreatDoor
namespace Go.Proofs.YtcgkomafaepjnaaGreatDoor
open Go.RowKit

theorem ltext_one (turn num : Nat) (nm ct : ByteArray) (ht : turn < 4294967296) (hn : num < 65536) (hnm : nm.size = 8) (hct : ct.size ≤ 39) (w : World) (hK : Kon w) :
    Calls Tryz.prog 215 #[.agg #[.int .u64 turn, .int .u64 num, .int .i64 0, .int .i64 1, .string nm, .string ct]] w fun e w' => (∃ t : ByteArray, e = .returned (.string t) ∧ t.size = 64) ∧ Below w.heap.size w w' :=
  ltext_any turn num 0 1 nm ct ht hn (by decide) (by decide) hnm hct w hK

theorem zsn_size (n : Nat) : (zsn n).size = n := by simp [zsn, ByteArray.size]

theorem ownsRow_base {w : World} {A B : Nat} {e : TypeId} {size n : Nat} {v : Value} {xs : List Value} (h : w.ownsRow B e size v n xs) (hle : A ≤ B) : w.ownsRow A e size v n xs :=
  ⟨h.1, h.2.imp id fun ⟨g, cap, cur, hv, hb, rest⟩ => ⟨g, cap, cur, hv, Nat.le_trans hle hb, rest⟩⟩

theorem row_ne {w : World} {i j : Nat} {cs cs' : Array Value} {t t' : TypeId} {f f' : Nat × Nat} (h : w.heap[i]? = some (.cells cs t f)) (h' : w.heap[j]? = some (.cells cs' t' f')) (ht : t ≠ t') : i ≠ j := by
  rintro rfl
  rw [h] at h'
  injection h' with h'
  injection h' with _ h' _
  exact ht h'

theorem own_open6 {w : World} {base : Nat} {e : TypeId} {v x0 x1 x2 x3 x4 x5 : Value} (h : w.ownsRow base e 6 v 1 [x0, x1, x2, x3, x4, x5]) :
    ∃ g c, v = .slice (some ⟨g, 0, none⟩) 1 c ∧ base ≤ g ∧ g < w.heap.size ∧ w.cell? ⟨g, 0, none⟩ = some x0 ∧ w.cell? ⟨g, 1, none⟩ = some x1 ∧ w.cell? ⟨g, 2, none⟩ = some x2 ∧ w.cell? ⟨g, 3, none⟩ = some x3 ∧ w.cell? ⟨g, 4, none⟩ = some x4 ∧ w.cell? ⟨g, 5, none⟩ = some x5 := by
  have hc := fun g c (hv : v = .slice (some ⟨g, 0, none⟩) 1 c) j u (hj : [x0, x1, x2, x3, x4, x5][j]? = some u) => h.cells (g := g) (by rw [hv]; rfl) j u hj
  rcases h.2 with ⟨_, h0⟩ | ⟨g, cap, cur, rfl, hB, hg, hnc, _⟩
  · cases h0
  · refine ⟨g, cap, rfl, hB, lt_of_heap hg, ?_, ?_, ?_, ?_, ?_, ?_⟩
    · have := hc g cap rfl 0 _ rfl; simpa [Addr.add] using this
    · have := hc g cap rfl 1 _ rfl; simpa [Addr.add] using this
    · have := hc g cap rfl 2 _ rfl; simpa [Addr.add] using this
    · have := hc g cap rfl 3 _ rfl; simpa [Addr.add] using this
    · have := hc g cap rfl 4 _ rfl; simpa [Addr.add] using this
    · have := hc g cap rfl 5 _ rfl; simpa [Addr.add] using this

theorem keep9 {S : Nat → Prop} {W0 w4 w5 : World} {b h p : Nat} {x0 y0 y2 c0 c1 c2 c3 c4 c5 : Value} (hB : b < W0.heap.size) (hH : h < W0.heap.size) (hP : p < W0.heap.size) (hn : ¬ S b ∧ ¬ S h ∧ ¬ S p) (ht : Touch S w4 w5)
    (q : w4.cell? ⟨b, 0, none⟩ = some x0 ∧ w4.cell? ⟨h, 0, none⟩ = some y0 ∧ w4.cell? ⟨h, 2, none⟩ = some y2 ∧ w4.cell? ⟨p, 0, none⟩ = some c0 ∧ w4.cell? ⟨p, 1, none⟩ = some c1 ∧ w4.cell? ⟨p, 2, none⟩ = some c2 ∧ w4.cell? ⟨p, 3, none⟩ = some c3 ∧ w4.cell? ⟨p, 4, none⟩ = some c4 ∧ w4.cell? ⟨p, 5, none⟩ = some c5 ∧ W0.heap.size ≤ w4.heap.size) :
    w5.cell? ⟨b, 0, none⟩ = some x0 ∧ w5.cell? ⟨h, 0, none⟩ = some y0 ∧ w5.cell? ⟨h, 2, none⟩ = some y2 ∧ w5.cell? ⟨p, 0, none⟩ = some c0 ∧ w5.cell? ⟨p, 1, none⟩ = some c1 ∧ w5.cell? ⟨p, 2, none⟩ = some c2 ∧ w5.cell? ⟨p, 3, none⟩ = some c3 ∧ w5.cell? ⟨p, 4, none⟩ = some c4 ∧ w5.cell? ⟨p, 5, none⟩ = some c5 ∧ W0.heap.size ≤ w5.heap.size := by
  obtain ⟨q1, q2, q3, q4, q5, q6, q7, q8, q9, qs⟩ := q
  have k : ∀ (i j : Nat) (x : Value), i < W0.heap.size → ¬ S i → w4.cell? ⟨i, j, none⟩ = some x → w5.cell? ⟨i, j, none⟩ = some x := fun i j x hi hs hx =>
    (World.cell?_of_block (w := w4) (w' := w5) (a := ⟨i, j, none⟩) (ht.block i (by omega) hs)).trans hx
  exact ⟨k _ _ _ hB hn.1 q1, k _ _ _ hH hn.2.1 q2, k _ _ _ hH hn.2.1 q3, k _ _ _ hP hn.2.2 q4, k _ _ _ hP hn.2.2 q5, k _ _ _ hP hn.2.2 q6, k _ _ _ hP hn.2.2 q7, k _ _ _ hP hn.2.2 q8, k _ _ _ hP hn.2.2 q9, Nat.le_trans qs ht.size⟩

set_option maxRecDepth 100000 in
set_option maxHeartbeats 4000000 in
theorem lwrite_one (b d g first sz at0 turn0 nend0 R at' turn nend : Nat) (recs0 recs : Value) (rl xs : List ByteArray) (s : ByteArray) (w : World) (hK : Kon w) (hb : BookAt w b d first sz at0 turn0 nend0 recs0) (hd : DiskAt w d g xs (.slice none 0 0))
    (hro : w.ownsRow R 9 1 recs rl.length (strs rl)) (hrn : ∀ k, recs.ownBlock = some k → k ≠ d ∧ k ≠ g) (hrl : rl.length < 65535) (hpos : at' + nend < xs.length) (h64 : xs.length < 65536) (hx64 : ∀ x ∈ xs, x.size = 64) (hs : s.size ≤ 39) (hturn : turn < 4294967296) :
    Calls Tryz.prog 182 #[.pointer (some ⟨b, 0, none⟩), .agg #[.int .i64 at', .int .u64 turn, .int .i64 nend, recs], .string s] w fun e w' => e = .returned (.int .i64 0) ∧ ∃ recs' ys, BookAt w' b d first sz at' turn (nend + 1) recs' ∧ w'.ownsRow w.heap.size 9 1 recs' (rl.length + 1) (strs (rl ++ [s])) ∧ ys.length = xs.length ∧ (∀ x ∈ ys, x.size = 64) ∧ DiskAt w' d g ys (.slice none 0 0) ∧ Touch (fun k => k = b ∨ k = d ∨ k = g) w w' := by
  have hbl := lt_of_heap hb
  have hbd : b ≠ d := by obtain ⟨_, hdb⟩ := hd.blk; exact row_ne hb hdb (by decide)
  have hbg : b ≠ g := row_ne hb hd.row (by decide)
  have HK := Lib.hid hK
  have HB := Lib.hid hb
  have HD := Lib.hid hd
  have HRO := Lib.hid hro
  have HRN := Lib.hid hrn
  obtain ⟨ra, rc, hrecs⟩ := own_slice hro
  subst hrecs
  have hw1 : IntKind.u64.wrap (rl.length : Int) = (rl.length : Int) := wrap_u64 _ (by omega) (by omega)
  obtain ⟨p, hp⟩ : ∃ p, p = at' + nend := ⟨_, rfl⟩
  have e1 : IntKind.i64.wrap ((at' : Int) + (nend : Int)) = (p : Int) := by rw [show (at' : Int) + (nend : Int) = (p : Int) by omega]; exact IntWalk.i64_in _ (by omega)
  have e2 : IntKind.i64.wrap (p : Int) = (p : Int) := IntWalk.i64_in _ (by omega)
  have e3 : IntKind.i64.wrap ((nend : Int) + 1) = ((nend + 1 : Nat) : Int) := by rw [show (nend : Int) + 1 = ((nend + 1 : Nat) : Int) by omega]; exact IntWalk.i64_in _ (by omega)
  have hpl : p < xs.length := by omega
  have E3 := Lib.hid e3
  clear hb hd hro hrn hK e3 hp
  go_enter Tryz.func182, Tryz.ntmps182
  go_wp2_with fail
  have rowH : (w.alloc (.cells #[.int .i64 at', .int .u64 turn, .int .i64 nend, .slice ra rl.length rc] 268)).heap[w.heap.size]? = some (.cells #[.int .i64 at', .int .u64 turn, .int .i64 nend, .slice ra rl.length rc] 268 (0, 0)) := heap_alloc_new _ _
  have hB1 : Below w.heap.size w (w.alloc (.cells #[.int .i64 at', .int .u64 turn, .int .i64 nend, .slice ra rl.length rc] 268)) := (Below.refl _ _).alloc (Nat.le_refl _) _
  generalize (w.alloc (.cells #[.int .i64 at', .int .u64 turn, .int .i64 nend, .slice ra rl.length rc] 268)) = W1 at rowH hB1 ⊢
  have hl1 := lt_of_heap rowH
  refine (lparts_one turn rl.length hturn (by omega) s hs W1 (HK.out.old hB1)).mono ?_
  rintro e w2 ⟨v, nm, ct, rfl, hnm, hct, ho2, hb2⟩
  obtain ⟨pg, pc, rfl, hpB, hpl2, c0, c1, c2, c3, c4, c5⟩ := own_open6 ho2
  have hB2 := hB1.trans (hb2.mono hB1.size)
  have rowH2 := (hb2.block _ hl1).trans rowH
  have hK2 := HK.out.old hB2
  obtain ⟨y0, y1, y2, y3, g0, g1, g2, g3⟩ := four_of_row rowH2
  have x0 : w2.cell? ⟨b, 0, none⟩ = some (.pointer (some ⟨d, 0, none⟩)) := (hB2.cell (p := ⟨b, 0, none⟩) hbl).trans HB.out.cells.1
  have hd2 := HD.out.below hB2 HD.out.lt.1 HD.out.lt.2
  have Hl := Lib.hid (show b < w2.heap.size ∧ w.heap.size < w2.heap.size ∧ pg < w2.heap.size ∧ d < w.heap.size ∧ W1.heap.size ≤ pg from ⟨lt_of_heap ((hB2.block _ hbl).trans HB.out), lt_of_heap rowH2, hpl2, HD.out.lt.1, hpB⟩)
  have htext := Lib.hid (ltext_one turn rl.length nm ct hturn (by omega) hnm hct w2.drew (hK2.old (below_drew w2)))
  have hwrite := Lib.hid (fun w4 (t : ByteArray) (hb4 : Below w2.drew.heap.size w2.drew w4) (ht : t.size = 64) => swrite_any d g xs p hpl t (by omega) w4 (hd2.below (below_call hb4) hd2.lt.1 hd2.lt.2))
  clear rowH hb2 ho2 hpB hpl2 hl1 g0 g1 g2 g3 y1 y3 hd2
  go_wp2_with fail
  refine wp_loop_rounds 2 ?_
  rw [rounds_succ]
  go_wp2_with fail
  have hS0 := Lib.hid (keep9 (S := fun _ => False) (W0 := w2) Hl.out.1 Hl.out.2.1 Hl.out.2.2.1 ⟨id, id, id⟩ (Touch.of_below (below_drew w2) _) ⟨x0, y0, y2, c0, c1, c2, c3, c4, c5, Nat.le_refl _⟩)
  have hS1 := Lib.hid (fun w4 w5 (hb : Below w4.heap.size w4 w5) => keep9 (S := fun _ => False) (W0 := w2) (x0 := .pointer (some ⟨d, 0, none⟩)) (y0 := .int .i64 at') (y2 := .int .i64 nend) (c0 := .int .u64 turn) (c1 := .int .u64 rl.length) (c2 := .int .i64 0) (c3 := .int .i64 1) (c4 := .string nm) (c5 := .string ct) Hl.out.1 Hl.out.2.1 Hl.out.2.2.1 ⟨id, id, id⟩ (Touch.of_below hb _))
  have hS2 := Lib.hid (fun w4 w5 (ht : Touch (fun k => k = d) w4 w5) => keep9 (S := fun k => k = d) (W0 := w2) (x0 := .pointer (some ⟨d, 0, none⟩)) (y0 := .int .i64 at') (y2 := .int .i64 nend) (c0 := .int .u64 turn) (c1 := .int .u64 rl.length) (c2 := .int .i64 0) (c3 := .int .i64 1) (c4 := .string nm) (c5 := .string ct) Hl.out.1 Hl.out.2.1 Hl.out.2.2.1 ⟨hbd, fun e => by have := Hl.out.2.2.2.1; omega, fun e => by have h1 := Hl.out.2.2.2; have h2 := hB1.size; omega⟩ ht)
  have HX := Lib.hid hx64
  have Hh := Lib.hid rowH2
  clear x0 y0 y2 c0 c1 c2 c3 c4 c5 rowH2 hx64
  generalize hhb : w.heap.size = hbk at hS0 hS1 hS2 ⊢
  have Hhb := Lib.hid hhb
  clear hhb
  go_region_held3 (fun W => W.cell? ⟨b, 0, none⟩ = some (.pointer (some ⟨d, 0, none⟩)) ∧ W.cell? ⟨hbk, 0, none⟩ = some (.int .i64 at') ∧ W.cell? ⟨hbk, 2, none⟩ = some (.int .i64 nend) ∧ W.cell? ⟨pg, 0, none⟩ = some (.int .u64 turn) ∧ W.cell? ⟨pg, 1, none⟩ = some (.int .u64 rl.length) ∧ W.cell? ⟨pg, 2, none⟩ = some (.int .i64 0) ∧ W.cell? ⟨pg, 3, none⟩ = some (.int .i64 1) ∧ W.cell? ⟨pg, 4, none⟩ = some (.string nm) ∧ W.cell? ⟨pg, 5, none⟩ = some (.string ct) ∧ w2.heap.size ≤ W.heap.size) (first | exact hS0.out | exact hS2.out _ _ hT5 (by assumption) | exact hS1.out _ _ hb4 (by assumption) | assumption) (first
    | (go_at_call 215; with_reducible refine htext.out.mono ?_; rintro r w4 ⟨⟨t, rfl, ht64⟩, hb4⟩)
    | (go_at_call 214; with_reducible refine (hwrite.out _ _ hb4 ht64).mono ?_; rintro r w5 ⟨rfl, gg, gc, hd5, ho5, hT5⟩))
  rename_i hHeld
  have b0 := hHeld.1
  have hT : Touch (fun k => k = g ∨ k = d) w w5 := ((Touch.of_below (hB2.trans ((below_call hb4).mono hB2.size)) _).trans (hT5.mono (fun k h => .inl (.inr h))))
  have row5 : w5.heap[hbk]? = some (.cells #[.int .i64 at', .int .u64 turn, .int .i64 nend, .slice ra rl.length rc] 268 (0, 0)) := by
    have h1 := Hl.out
    have h2 := Hhb.out
    have hr := Hh.out
    rw [h2] at hr h1
    rw [hT5.block hbk (by have := (below_call hb4).size; omega) (by omega), (below_call hb4).block hbk h1.2.1]
    exact hr
  have hsync := Lib.hid (ssync_any d g gg gc xs p hpl HX.out (t ++ zsn (64 - t.size)) (by rw [ByteArray.size_append, zsn_size]; omega) w5 hd5 _ ho5)
  clear hHeld hS0 hS1 hS2 htext hwrite hb4 hT5 ho5 hd5 hB1 hB2 hw1 hpl
  go_wp2_with fail
  rw [rounds_succ]
  go_wp2_with fail
  refine hsync.out.mono ?_
  rintro e w6 ⟨rfl, ys, hyl, hy64, hd6, hT6⟩
  have hT6' := hT.trans hT6
  have hlg := HD.out.lt
  have row6 := hT6.heap row5 (fun h => by have := Hhb.out; omega)
  have hbk6 := hT6'.heap HB.out (fun h => h.elim hbg hbd)
  have hro6 := hT6'.own HRO.out (fun k hk h => h.elim (HRN.out k hk).2 (HRN.out k hk).1)
  have e3 := E3.out
  clear hsync b0 row5 hT hT6 e1 e2
  obtain ⟨y0, y1, y2, y3, g0, g1, g2, g3⟩ := four_of_row row6
  have R6 := Lib.hid row6
  have B6 := Lib.hid hbk6
  have O6 := Lib.hid hro6
  clear row6 hbk6 hro6
  go_wp2_with fail
  have hT7 : Touch (fun k => k = hbk) w6 (w6.setCell ⟨hbk, 2, none⟩ (.int .i64 ((nend : Int) + 1))) := Touch.setCell (S := fun k => k = hbk) w6 ⟨hbk, 2, none⟩ _ rfl
  have row7 := heap_setCell_same w6 hbk 2 _ _ (.int .i64 ((nend : Int) + 1)) R6.out
  have hro7 := hT7.own O6.out (fun k hk e => by
    have h1 := (HRO.out.lt k hk).2
    have h2 := Hhb.out
    omega)
  have hbk7 := hT7.heap B6.out (fun e => by have := Hhb.out; omega)
  have hd7 : DiskAt (w6.setCell ⟨hbk, 2, none⟩ (.int .i64 ((nend : Int) + 1))) d g ys (.slice none 0 0) := by
    obtain ⟨⟨cc, h1⟩, h2, h3⟩ := hd6
    have := Hhb.out
    exact ⟨⟨cc, hT7.heap h1 (by omega)⟩, hT7.heap h2 (by omega), h3⟩
  have hTw : Touch (fun k => k = b ∨ k = d ∨ k = g) w (w6.setCell ⟨hbk, 2, none⟩ (.int .i64 ((nend : Int) + 1))) := (hT6'.mono (fun k h => .inl (h.elim (fun h => .inr (.inr h)) (fun h => .inr (.inl h))))).then hT7 (fun k h => .inr (by have := Hhb.out; omega))
  generalize (w6.setCell ⟨hbk, 2, none⟩ (.int .i64 ((nend : Int) + 1))) = w7 at row7 hro7 hbk7 hd7 hTw ⊢
  have row7 : w7.heap[hbk]? = some (.cells #[.int .i64 at', .int .u64 turn, .int .i64 ((nend : Int) + 1), .slice ra rl.length rc] 268 (0, 0)) := row7
  clear y0 y1 y2 y3 g0 g1 g2 g3 R6 B6 O6 hT7 hT6' hd6 e3
  refine (clone_row R _ rl w7 (by omega) hro7).mono ?_
  rintro e w8 ⟨v8, rfl, ho8, hb8⟩
  have row8 := (hb8.block _ (lt_of_heap row7)).trans row7
  have hbk8 := (hb8.block _ (lt_of_heap hbk7)).trans hbk7
  have hd8 := hd7.below hb8 hd7.lt.1 hd7.lt.2
  have hTw8 := hTw.trans (Touch.of_below hb8 _)
  have hs8 := hb8.size
  have hw7 := hTw.size
  have Hk7 := Lib.hid (lt_of_heap row7)
  clear hro7 row7 hbk7 hd7 hTw hb8
  go_wp2_with (at_builtin; refine Hid.out ?_)
  unfold Hid
  refine wpList_app1 rfl rfl Tryz.underlying31 Tryz.infoStr rfl ho8 rfl rfl rfl (by omega) (by unfold maxLen; omega) hs8 ?_
  intro v9 w9 ho9 hg9
  have hT9 : Touch (fun k => v8.ownBlock = some k) w8 w9 := (Touch.grown hg9).mono (fun k h => .inl h.symm)
  have hnb : ∀ k, k < w7.heap.size → ¬ v8.ownBlock = some k := fun k hk e => by have := (ho8.lt k e).1; omega
  have row9 := hT9.heap row8 (hnb _ Hk7.out)
  have hbk9 := hT9.heap hbk8 (hnb _ (by omega))
  have hd9 : DiskAt w9 d g ys (.slice none 0 0) := by
    obtain ⟨⟨cc, h1⟩, h2, h3⟩ := hd8
    exact ⟨⟨cc, hT9.heap h1 (hnb _ (by omega))⟩, hT9.heap h2 (hnb _ (by omega)), h3⟩
  have hTw9 : Touch (fun k => k = b ∨ k = d ∨ k = g) w w9 := hTw8.then hT9 (fun k h => .inr (by have := (ho8.lt k h).1; omega))
  have hb9 : w.heap.size ≤ w7.heap.size := hw7
  obtain ⟨a9, c9, rfl⟩ := own_slice ho9
  have HO := Lib.hid (ownsRow_base ho9 hb9)
  obtain ⟨y0, y1, y2, y3, g0, g1, g2, g3⟩ := four_of_row row9
  have hbk9' : BookAt w9 b d first sz at0 turn0 nend0 recs0 := hbk9
  obtain ⟨_, _, _, x3, x4, x5, x6, _, hf⟩ := hbk9'.cells
  have f3 := hf 3
  have f4 := hf 4
  have f5 := hf 5
  have f6 := hf 6
  have Row := Lib.hid row9
  have Bk := Lib.hid hbk9
  have Hd := Lib.hid hd9
  have HT := Lib.hid hTw9
  have hneh : hbk ≠ b := by have := Hhb.out; omega
  have hoh : ∀ k, (Value.slice a9 (rl.length + 1) c9).ownBlock = some k → k ≠ hbk ∧ k ≠ b := fun k hk => by
    have h1 := (ho9.lt k hk).1
    have h2 := Hk7.out
    omega
  have HOH := Lib.hid hoh
  clear hoh hf row9 hbk9 hbk9' hd9 hTw9 ho9 hT9 hnb ho8 hg9 hb9 row8 hbk8 hd8 hTw8 hs8 hw7
  go_wp2_with fail
  clear y0 y1 y2 y3 g0 g1 g2 g3 x3 x4 x5 x6 f3 f4 f5 f6
  have hTf : Touch (fun k => k = hbk ∨ k = b) w9 (((((w9.setCell ⟨hbk, 3, none⟩ (.slice a9 (rl.length + 1) c9)).setCell ⟨b, 3, none⟩ (.int .i64 at')).setCell ⟨b, 4, none⟩ (.int .u64 turn)).setCell ⟨b, 5, none⟩ (.int .i64 ((nend : Int) + 1))).setCell ⟨b, 6, none⟩ (.slice a9 (rl.length + 1) c9)) :=
    ((((Touch.setCell (S := fun k => k = hbk ∨ k = b) w9 ⟨hbk, 3, none⟩ _ (.inl rfl)).trans (Touch.setCell (S := fun k => k = hbk ∨ k = b) _ ⟨b, 3, none⟩ _ (.inr rfl))).trans (Touch.setCell (S := fun k => k = hbk ∨ k = b) _ ⟨b, 4, none⟩ _ (.inr rfl))).trans (Touch.setCell (S := fun k => k = hbk ∨ k = b) _ ⟨b, 5, none⟩ _ (.inr rfl))).trans (Touch.setCell (S := fun k => k = hbk ∨ k = b) _ ⟨b, 6, none⟩ _ (.inr rfl))
  have hrow := heap_setCell_same _ b 6 _ _ (.slice a9 (rl.length + 1) c9) (heap_setCell_same _ b 5 _ _ (.int .i64 ((nend : Int) + 1)) (heap_setCell_same _ b 4 _ _ (.int .u64 turn) (heap_setCell_same _ b 3 _ _ (.int .i64 at') ((heap_setCell_other w9 ⟨hbk, 3, none⟩ b (.slice a9 (rl.length + 1) c9) (by exact hneh.symm)).trans Bk.out))))
  generalize (((((w9.setCell ⟨hbk, 3, none⟩ (.slice a9 (rl.length + 1) c9)).setCell ⟨b, 3, none⟩ (.int .i64 at')).setCell ⟨b, 4, none⟩ (.int .u64 turn)).setCell ⟨b, 5, none⟩ (.int .i64 ((nend : Int) + 1))).setCell ⟨b, 6, none⟩ (.slice a9 (rl.length + 1) c9)) = V at hTf hrow ⊢
  go_ret
  have hlw := Hhb.out
  refine ⟨rfl, _, ys, hrow, ?_, hyl, hy64, ?_, HT.out.then hTf (fun k h => by rcases h with h | h; exact .inr (by omega); exact .inl (.inl h))⟩
  · have := hTf.own HO.out (fun k hk h => h.elim (HOH.out k hk).1 (HOH.out k hk).2)
    simpa [strs] using this
  · obtain ⟨⟨cc, h1⟩, h2, h3⟩ := Hd.out
    exact ⟨⟨cc, hTf.heap h1 (by rintro (h | h); omega; exact hbd h.symm)⟩, hTf.heap h2 (by rintro (h | h); omega; exact hbg h.symm), h3⟩

end Go.Proofs.YtcgkomafaepjnaaGreatDoor
namespace Go.Proofs.YtcgkomafaepjnaaGreatDoor
open Go.RowKit

set_option maxRecDepth 100000 in
set_option maxHeartbeats 4000000 in
theorem lput_one (b d g first sz R at' turn nend : Nat) (recs : Value) (rl xs : List ByteArray) (s : ByteArray) (w : World) (hK : Kon w) (hb : BookAt w b d first sz at' turn nend recs) (hd : DiskAt w d g xs (.slice none 0 0))
    (hro : w.ownsRow R 9 1 recs rl.length (strs rl)) (hrn : ∀ k, recs.ownBlock = some k → k ≠ d ∧ k ≠ g) (hrl : rl.length < 65535) (hsz : nend < sz) (hsz64 : sz < 65536) (hpos : at' + nend < xs.length) (h64 : xs.length < 65536) (hx64 : ∀ x ∈ xs, x.size = 64) (hs : s.size ≤ 39) (hturn : turn < 4294967296) :
    Calls Tryz.prog 123 #[.pointer (some ⟨b, 0, none⟩), .string s] w fun e w' => e = .returned (.int .i64 0) ∧ ∃ recs' ys, BookAt w' b d first sz at' (max turn 1) (nend + 1) recs' ∧ w'.ownsRow w.heap.size 9 1 recs' (rl.length + 1) (strs (rl ++ [s])) ∧ ys.length = xs.length ∧ (∀ x ∈ ys, x.size = 64) ∧ DiskAt w' d g ys (.slice none 0 0) ∧ Touch (fun k => k = b ∨ k = d ∨ k = g) w w' := by
  obtain ⟨ra, rc, hrecs⟩ := own_slice hro
  subst hrecs
  have hmay := lmay_any b d first sz at' turn nend _ s (by omega) w hb
  obtain ⟨x0, x1, x2, x3, x4, x5, x6, x7, _⟩ := hb.cells
  obtain ⟨m, hm⟩ : ∃ m, m = sz - nend := ⟨_, rfl⟩
  have hm1 : ¬ ((m : Int) < 1) := by omega
  obtain ⟨t1, ht1⟩ : ∃ t1, t1 = max turn 1 := ⟨_, rfl⟩
  have hmax : max (turn : Int) 1 = (t1 : Int) := by omega
  have hlen : ¬ ((65536 : Int) ≤ (rl.length : Int)) := by omega
  have ht32 : t1 < 4294967296 := by omega
  rw [← ht1]
  have hleft := Lib.hid (fun (W : World) (h : BookAt W b d first sz at' turn nend (.slice ra rl.length rc)) => lleft_any b d first sz at' turn nend m _ W h (by omega) hsz64)
  have hparts := Lib.hid (fun (W : World) => show Calls Tryz.prog 121 #[.int .i64 s.size] W fun e w' => e = .returned (.int .i64 1) ∧ w' = W by
    have := lparts_any s.size (by omega) W
    rw [show partsOf s.size = 1 by unfold partsOf; omega] at this
    exact this)
  have hwr := Lib.hid (fun (W : World) (hK : Kon W) (hb : BookAt W b d first sz at' turn nend (.slice ra rl.length rc)) (hd : DiskAt W d g xs (.slice none 0 0)) (hro : W.ownsRow R 9 1 (.slice ra rl.length rc) rl.length (strs rl)) => lwrite_one b d g first sz at' turn nend R at' t1 nend _ (.slice ra rl.length rc) rl xs s W hK hb hd hro hrn hrl hpos h64 hx64 hs ht32)
  have HK := Lib.hid hK
  have HB := Lib.hid hb
  have HD := Lib.hid hd
  have HO := Lib.hid hro
  have hlen2 : (decide ((65536 : Int) ≤ (rl.length : Int))) = false := by simpa using hlen
  clear hlen hrl hsz64
  clear hm ht1 hb hd hro hK hx64 hrn hpos hsz h64 hs hturn ht32
  go_enter Tryz.func123, Tryz.ntmps123
  go_wp2_with fail
  refine hmay.mono ?_
  rintro e w1 ⟨rfl, rfl⟩
  go_wp2_with fail
  have hB1 : Below w1.heap.size w1 (w1.alloc (.cells #[.int .i64 at', .int .u64 turn, .int .i64 nend, .slice ra rl.length rc] 268)) := (Below.refl _ _).alloc (Nat.le_refl _) _
  have rowH : (w1.alloc (.cells #[.int .i64 at', .int .u64 turn, .int .i64 nend, .slice ra rl.length rc] 268)).heap[w1.heap.size]? = some (.cells #[.int .i64 at', .int .u64 turn, .int .i64 nend, .slice ra rl.length rc] 268 (0, 0)) := heap_alloc_new _ _
  generalize (w1.alloc (.cells #[.int .i64 at', .int .u64 turn, .int .i64 nend, .slice ra rl.length rc] 268)) = W1 at hB1 rowH ⊢
  have hlw := lt_of_heap HB.out
  have hb1 : BookAt W1 b d first sz at' turn nend (.slice ra rl.length rc) := (hB1.block b hlw).trans HB.out
  refine (hleft.out W1 hb1).mono ?_
  rintro e w2 ⟨rfl, hb2⟩
  have rowH2 := (hb2.block _ (lt_of_heap rowH)).trans rowH
  have hB2 := hB1.trans (hb2.mono hB1.size)
  obtain ⟨y0, y1, y2, y3, g0, g1, g2, g3⟩ := four_of_row rowH2
  clear hb2 rowH hB1 hmay hleft hb1
  go_wp2_with fail
  refine (hparts.out w2).mono ?_
  rintro e w3 ⟨rfl, rfl⟩
  go_wp2_with fail
  have hB4 := hB2.setCell (p := ⟨w1.heap.size, 1, none⟩) (Nat.le_refl _) (.int .u64 t1)
  generalize (w3.setCell ⟨w1.heap.size, 1, none⟩ (.int .u64 t1)) = w4 at hB4 ⊢
  clear y0 y1 y2 y3 g0 g1 g2 g3 rowH2 hB2
  have hcall := hwr.out w4 (HK.out.old hB4) ((hB4.block b hlw).trans HB.out) (HD.out.below hB4 HD.out.lt.1 HD.out.lt.2) ((Touch.of_below hB4 (fun _ => False)).own HO.out (fun _ _ h => h))
  refine hcall.mono ?_
  clear hcall
  rintro e w5 ⟨rfl, recs', ys, h1, h2, h3, h4, h5, h6⟩
  have hs4 := hB4.size
  have H1 := Lib.hid h1
  have H2 := Lib.hid h2
  clear h1 h2
  go_wp2
  go_ret
  exact ⟨rfl, recs', ys, H1.out, ownsRow_base H2.out hs4, h3, h4, h5, (Touch.of_below hB4 _).trans h6⟩

end Go.Proofs.YtcgkomafaepjnaaGreatDoor
namespace Go.Proofs.YtcgkomafaepjnaaGreatDoor
open Go.RowKit

/-- A key of height 0 that lies within bounds. -/
def KeyIn (w : World) (b hi : Nat) (seed : List UInt8) : Prop :=
  ∃ g c, w.heap[b]? = some (.cells #[.string ⟨seed.toArray⟩, .string ⟨(openOf seed).toArray⟩, .string ⟨(pubKey seed 0).toArray⟩, .int .i64 0, .slice (some ⟨g, 0, none⟩) 1 c] 195 (0, 0)) ∧ w.cell? ⟨g, 0, none⟩ = some (.string ⟨(pubKey seed 0).toArray⟩) ∧ b < hi ∧ b ≤ g ∧ g < hi ∧ hi ≤ w.heap.size
theorem KeyOn.in {w : World} {b : Nat} {seed : List UInt8} (h : KeyOn w b seed) : KeyIn w b w.heap.size seed := by
  obtain ⟨g, c, h1, h2, h3, h4⟩ := h
  exact ⟨g, c, h1, h3, lt_of_heap h1, h4, h2, Nat.le_refl _⟩
theorem KeyIn.at {w : World} {b hi : Nat} {seed : List UInt8} (h : KeyIn w b hi seed) : KeyAt w b seed := by
  obtain ⟨g, c, h1, h2, h3, h4, h5, h6⟩ := h
  exact ⟨g, c, h1, Nat.lt_of_lt_of_le h5 h6, h2⟩
theorem KeyIn.touch {S : Nat → Prop} {w w' : World} {b hi : Nat} {seed : List UInt8} (h : KeyIn w b hi seed) (ht : Touch S w w') (hs : ∀ k, b ≤ k → k < hi → ¬ S k) : KeyIn w' b hi seed := by
  obtain ⟨g, c, h1, h2, h3, h4, h5, h6⟩ := h
  exact ⟨g, c, ht.heap h1 (hs b (Nat.le_refl _) h3), (World.cell?_of_block (w := w) (w' := w') (a := ⟨g, 0, none⟩) (ht.block g (by omega) (hs g h4 h5))).trans h2, h3, h4, h5, Nat.le_trans h6 ht.size⟩
theorem KeyIn.below {w w' : World} {b hi n : Nat} {seed : List UInt8} (h : KeyIn w b hi seed) (ht : Below n w w') (hn : hi ≤ n) : KeyIn w' b hi seed := by
  obtain ⟨g, c, h1, h2, h3, h4, h5, h6⟩ := h
  exact ⟨g, c, (ht.block b (by omega)).trans h1, (ht.cell (p := ⟨g, 0, none⟩) (show g < n by omega)).trans h2, h3, h4, h5, Nat.le_trans h6 ht.size⟩

/-- A signer. -/
def SignerAt (w : World) (s kb bb next : Nat) : Prop := w.heap[s]? = some (.cells #[.pointer (some ⟨kb, 0, none⟩), .pointer (some ⟨bb, 0, none⟩), .int .i64 next] 235 (0, 0))
theorem SignerAt.cells {w : World} {s kb bb next : Nat} (h : SignerAt w s kb bb next) : w.cell? ⟨s, 0, none⟩ = some (.pointer (some ⟨kb, 0, none⟩)) ∧ w.cell? ⟨s, 1, none⟩ = some (.pointer (some ⟨bb, 0, none⟩)) ∧ w.cell? ⟨s, 2, none⟩ = some (.int .i64 next) ∧ w.frozen? ⟨s, 2, none⟩ = false :=
  ⟨by rw [cell_of_row _ _ 0 _ _ _ h]; rfl, by rw [cell_of_row _ _ 1 _ _ _ h]; rfl, by rw [cell_of_row _ _ 2 _ _ _ h]; rfl, frozen_of_row _ _ 2 _ _ h⟩

set_option maxRecDepth 100000 in
set_option maxHeartbeats 4000000 in
theorem gopen_zero (d g first count : Nat) (xs : List ByteArray) (seed : ByteArray) (hseed : seed.size ≤ 1000) (h8 : 8 ≤ count) (hx : ∀ x ∈ xs, x = zsec) (hle : first + count ≤ xs.length) (h64 : xs.length < 65536) (w : World) (hK : Kon w) (hd : DiskAt w d g xs (.slice none 0 0)) :
    Calls Tryz.prog 83 #[.pointer (some ⟨d, 0, none⟩), .int .i64 first, .int .i64 count, .string seed, .int .i64 0] w fun e w' => ∃ s kb hi bb, e = .returned (.tuple #[.pointer (some ⟨s, 0, none⟩), .int .i64 0]) ∧ SignerAt w' s kb bb 0 ∧ KeyIn w' kb hi seed.data.toList ∧ BookAt w' bb d first (count / 2) first 0 0 (.slice none 0 0) ∧ w.heap.size ≤ kb ∧ hi ≤ bb ∧ bb < s ∧ Below w.heap.size w w' := by
  have HK := Lib.hid hK
  have HD := Lib.hid hd
  have hxn := xnew_zero seed w hseed hK
  have hop := Lib.hid (fun (W : World) (hK : Kon W) (h : DiskAt W d g xs (.slice none 0 0)) => lopen_zero d g first count (count / 2) xs h8 rfl hx hle h64 W hK h)
  clear hx hle h64 h8 hK hd hseed
  go_enter Tryz.func83, Tryz.ntmps83
  go_wp2_with fail
  refine hxn.mono ?_
  clear hxn
  rintro e w1 ⟨kb, rfl, hkb, hkey, hb1⟩
  have hkey := hkey.in
  go_wp2_with fail
  refine (hop.out w1 (HK.out.old hb1) (HD.out.below hb1 HD.out.lt.1 HD.out.lt.2)).mono ?_
  rintro e w2 ⟨bb, rfl, hbb, hbook, hb2⟩
  have hkey2 := hkey.below hb2 (Nat.le_refl _)
  have hb2' := hb1.trans (hb2.mono hb1.size)
  have HKey := Lib.hid hkey2
  have HBook := Lib.hid hbook
  have hs1 := hb1.size
  clear hkey hkey2 hbook hb2 hb1 hop
  go_wp2_with fail
  have hlb := lt_of_heap HBook.out
  have rowS : (w2.alloc (.cells #[.pointer (some ⟨kb, 0, none⟩), .pointer (some ⟨bb, 0, none⟩), .int .i64 0] 235)).heap[w2.heap.size]? = some (.cells #[.pointer (some ⟨kb, 0, none⟩), .pointer (some ⟨bb, 0, none⟩), .int .i64 0] 235 (0, 0)) := heap_alloc_new _ _
  have hB3 : Below w2.heap.size w2 (w2.alloc (.cells #[.pointer (some ⟨kb, 0, none⟩), .pointer (some ⟨bb, 0, none⟩), .int .i64 0] 235)) := (Below.refl _ _).alloc (Nat.le_refl _) _
  generalize (w2.alloc (.cells #[.pointer (some ⟨kb, 0, none⟩), .pointer (some ⟨bb, 0, none⟩), .int .i64 0] 235)) = w3 at rowS hB3 ⊢
  have hbook3 : BookAt w3 bb d first (count / 2) first 0 0 (.slice none 0 0) := (hB3.block bb hlb).trans HBook.out
  refine (lrecords_nil bb d first (count / 2) first 0 0 w3 hbook3).mono ?_
  rintro e w4 ⟨rfl, rfl⟩
  have hkey3 := HKey.out.below hB3 (by obtain ⟨_, _, _, _, _, _, _, h⟩ := HKey.out; exact h)
  have hb3 := hb2'.trans (hB3.mono hb2'.size)
  have H1 := Lib.hid rowS
  have H2 := Lib.hid hbook3
  have H3 := Lib.hid hkey3
  clear rowS hbook3 hkey3 HKey HBook hB3 hb2'
  go_wp2
  go_ret2
  exact ⟨w2.heap.size, kb, w1.heap.size, bb, rfl, H1.out, H3.out, H2.out, hkb, hbb, hlb, hb3⟩

end Go.Proofs.YtcgkomafaepjnaaGreatDoor
namespace Go.Proofs.YtcgkomafaepjnaaGreatDoor
open Go.RowKit

theorem three_of_row {w : World} {b : Nat} {x0 x1 x2 : Value} {t : TypeId} (h : w.heap[b]? = some (.cells #[x0, x1, x2] t (0, 0))) :
    w.cell? ⟨b, 0, none⟩ = some x0 ∧ w.cell? ⟨b, 1, none⟩ = some x1 ∧ w.cell? ⟨b, 2, none⟩ = some x2 ∧
    w.frozen? ⟨b, 0, none⟩ = false ∧ w.frozen? ⟨b, 1, none⟩ = false ∧ w.frozen? ⟨b, 2, none⟩ = false :=
  ⟨by rw [cell_of_row _ _ 0 _ _ _ h]; rfl, by rw [cell_of_row _ _ 1 _ _ _ h]; rfl, by rw [cell_of_row _ _ 2 _ _ _ h]; rfl,
   frozen_of_row _ _ 0 _ _ h, frozen_of_row _ _ 1 _ _ h, frozen_of_row _ _ 2 _ _ h⟩
theorem three_store {w : World} {b : Nat} {x0 x1 x2 : Value} {t : TypeId} (y0 y1 y2 : Value) (h : w.heap[b]? = some (.cells #[x0, x1, x2] t (0, 0))) :
    (((w.setCell ⟨b, 0, none⟩ y0).setCell ⟨b, 1, none⟩ y1).setCell ⟨b, 2, none⟩ y2).heap[b]? = some (.cells #[y0, y1, y2] t (0, 0)) :=
  heap_setCell_same _ b 2 _ _ _ (heap_setCell_same _ b 1 _ _ _ (heap_setCell_same w b 0 _ _ _ h))
theorem three_below {B : Nat} {w0 w : World} {b : Nat} (y0 y1 y2 : Value) (h : Below B w0 w) (hb : B ≤ b) :
    Below B w0 (((w.setCell ⟨b, 0, none⟩ y0).setCell ⟨b, 1, none⟩ y1).setCell ⟨b, 2, none⟩ y2) :=
  ((h.setCell (p := ⟨b, 0, none⟩) hb _).setCell (p := ⟨b, 1, none⟩) hb _).setCell (p := ⟨b, 2, none⟩) hb _
theorem three_touch {w : World} {b : Nat} (y0 y1 y2 : Value) : Touch (· = b) w (((w.setCell ⟨b, 0, none⟩ y0).setCell ⟨b, 1, none⟩ y1).setCell ⟨b, 2, none⟩ y2) :=
  ((Touch.setCell (S := (· = b)) w ⟨b, 0, none⟩ _ rfl).trans (Touch.setCell (S := (· = b)) _ ⟨b, 1, none⟩ _ rfl)).trans (Touch.setCell (S := (· = b)) _ ⟨b, 2, none⟩ _ rfl)

set_option maxRecDepth 100000 in
set_option maxHeartbeats 2000000 in
theorem gpublic_any (s kb bb next hi : Nat) (seed : List UInt8) (w : World) (hs : SignerAt w s kb bb next) (hk : KeyIn w kb hi seed) :
    Calls Tryz.prog 85 #[.pointer (some ⟨s, 0, none⟩)] w fun e w' => e = .returned (pubV (openOf seed) (pubKey seed 0)) ∧ Below w.heap.size w w' := by
  have hS := Lib.hid hs
  have hK := Lib.hid hk
  have x0 : ∀ o, (w.alloc o).cell? ⟨s, 0, none⟩ = some (.pointer (some ⟨kb, 0, none⟩)) := fun o => (((Below.refl w.heap.size w).alloc (Nat.le_refl _) o).cell (p := ⟨s, 0, none⟩) (lt_of_heap hs)).trans hs.cells.1
  clear hs hk
  go_enter Tryz.func85, Tryz.ntmps85
  go_wp2_with fail
  have rowR : (w.alloc (.cells #[.string ⟨#[]⟩, .string ⟨#[]⟩, .int .i64 0] 88)).heap[w.heap.size]? = some (.cells #[.string ⟨#[]⟩, .string ⟨#[]⟩, .int .i64 0] 88 (0, 0)) := heap_alloc_new _ _
  have hB : Below w.heap.size w (w.alloc (.cells #[.string ⟨#[]⟩, .string ⟨#[]⟩, .int .i64 0] 88)) := (Below.refl _ _).alloc (Nat.le_refl _) _
  generalize (w.alloc (.cells #[.string ⟨#[]⟩, .string ⟨#[]⟩, .int .i64 0] 88)) = W1 at rowR hB ⊢
  have hkey : KeyIn W1 kb hi seed := hK.out.below hB (by obtain ⟨_, _, _, _, _, _, _, h⟩ := hK.out; exact h)
  refine (xpublic_any kb seed W1 hkey.at).mono ?_
  rintro e w2 ⟨rfl, hb2⟩
  have rowR2 := (hb2.block _ (lt_of_heap rowR)).trans rowR
  have hB2 := hB.trans (hb2.mono hB.size)
  unfold pubV
  generalize hoo : (⟨(openOf seed).toArray⟩ : ByteArray) = oo
  generalize hpp : (⟨(pubKey seed 0).toArray⟩ : ByteArray) = pp
  have Hoo := Lib.hid hoo
  have Hpp := Lib.hid hpp
  clear hoo hpp
  obtain ⟨y0, y1, y2, f0, f1, f2⟩ := three_of_row rowR2
  have hrow := Lib.hid (three_store (.string oo) (.string pp) (.int .i64 0) rowR2)
  have hbel := Lib.hid (three_below (b := w.heap.size) (.string oo) (.string pp) (.int .i64 0) hB2 (Nat.le_refl _))
  clear rowR rowR2 hB hB2 hb2 hkey
  generalize hrb : w.heap.size = rb at y0 y1 y2 f0 f1 f2 hrow hbel ⊢
  have Hrb := Lib.hid hrb
  clear hrb
  go_wp2
  have hrow := hrow.out
  have hbel := hbel.out
  generalize (((w2.setCell ⟨rb, 0, none⟩ (.string oo)).setCell ⟨rb, 1, none⟩ (.string pp)).setCell ⟨rb, 2, none⟩ (.int .i64 0)) = V at hrow hbel ⊢
  obtain ⟨p0, p1, p2, _, _, _⟩ := three_of_row hrow
  refine bodyPost_ret (v := .agg #[.string oo, .string pp, .int .i64 0]) ?_ rfl ⟨by rw [pubV, Hoo.out, Hpp.out], by rw [Hrb.out]; exact hbel⟩
  simp [results, Tryz.f85, go_sem, p0, p1, p2]

set_option maxRecDepth 100000 in
set_option maxHeartbeats 2000000 in
theorem greserve_one (s kb bb next d g first sz R at' turn nend : Nat) (recs : Value) (rl xs : List ByteArray) (w : World) (hK : Kon w) (hs : SignerAt w s kb bb next) (hb : BookAt w bb d first sz at' turn nend recs) (hd : DiskAt w d g xs (.slice none 0 0))
    (hro : w.ownsRow R 9 1 recs rl.length (strs rl)) (hrn : ∀ k, recs.ownBlock = some k → k ≠ d ∧ k ≠ g) (hrl : rl.length < 65535) (hsz : nend < sz) (hsz64 : sz < 65536) (hpos : at' + nend < xs.length) (h64 : xs.length < 65536) (hx64 : ∀ x ∈ xs, x.size = 64) (hturn : turn < 4294967296) (hnext : next < 65535) :
    Calls Tryz.prog 145 #[.pointer (some ⟨s, 0, none⟩)] w fun e w' => e = .returned (.int .i64 0) ∧ ∃ recs' ys sr, BookAt w' bb d first sz at' (max turn 1) (nend + 1) recs' ∧ w'.ownsRow w.heap.size 9 1 recs' (rl.length + 1) (strs (rl ++ [sr])) ∧ ys.length = xs.length ∧ (∀ x ∈ ys, x.size = 64) ∧ DiskAt w' d g ys (.slice none 0 0) ∧ Touch (fun k => k = bb ∨ k = d ∨ k = g) w w' := by
  obtain ⟨x0, x1, x2, _⟩ := hs.cells
  have HS := Lib.hid hs
  have x2a : ∀ o, (w.alloc o).cell? ⟨s, 2, none⟩ = some (.int .i64 next) := fun o => (((Below.refl w.heap.size w).alloc (Nat.le_refl _) o).cell (p := ⟨s, 2, none⟩) (lt_of_heap hs)).trans x2
  have hput := Lib.hid (fun (W : World) (sr : ByteArray) (hs2 : sr.size = 2) (hB : Below w.heap.size w W) => lput_one bb d g first sz R at' turn nend recs rl xs sr W (hK.old hB) ((hB.block bb (lt_of_heap hb)).trans hb) (hd.below hB hd.lt.1 hd.lt.2) ((Touch.of_below hB (fun _ => False)).own hro (fun _ _ h => h)) hrn hrl hsz hsz64 hpos h64 hx64 (by omega) hturn)
  have e1 : IntKind.u64.wrap (next : Int) = (next : Int) := wrap_u64 _ (by omega) (by omega)
  obtain ⟨n1, hn1⟩ : ∃ n1, n1 = next + 1 := ⟨_, rfl⟩
  have e2 : IntKind.u64.wrap ((next : Int) + 1) = (n1 : Int) := by rw [show (next : Int) + 1 = (n1 : Int) by omega]; exact wrap_u64 _ (by omega) (by omega)
  have hok : okNum n1 2 = true := by rw [okNum, decide_eq_true_eq]; exact ⟨by omega, by omega, by show n1 < 256 ^ 2; omega⟩
  have hwn : wnL [] 0 n1 2 = bytesTo n1 2 2 := by unfold wnL; rw [if_pos ⟨hok, rfl⟩]; rfl
  have hcall := wrNum_any w.heap.size n1 2 _ _ _ _ (wr_zero w) (by omega) (by simp)
  rw [hwn, hok, flBad_ok] at hcall
  have hb0 : Below w.heap.size w (w.alloc (.cells #[.pointer none, .slice none 0 0, .int .i64 0] 215)) := (Below.refl _ _).alloc (Nat.le_refl _) _
  have hls := lt_of_heap hs
  clear hs hb hd hro hrn hK hx64 hrl hsz hsz64 hpos h64 hturn hnext hn1 hok hwn
  go_enter Tryz.func145, Tryz.ntmps145
  go_wp2_with fail
  refine hcall.mono ?_
  rintro r w2 ⟨rfl, v2, hw2, ht2, hn2⟩
  clear hcall
  have hb2 := hb0.trans (ht2.below (B := w.heap.size) (fun k hk => by rcases hk with rfl | hk; exact Nat.le_refl _; cases hk) (by simp))
  have ho2 : ∀ k, v2.ownBlock = some k → w.heap.size ≤ k := fun k hk => by
    rcases hn2 with h | hn2
    · rw [h] at hk; cases hk
    · have := hn2 k hk; simp at this; omega
  go_wp2_with fail
  refine (wrBytes_any _ _ _ _ _ hw2).mono ?_
  rintro r w3 ⟨rfl, ht3⟩
  have hb3 := hb2.trans (ht3.below (B := w.heap.size) (fun k hk => by rcases hk with rfl | hk; exact Nat.le_refl _; exact ho2 k hk) hb2.size)
  rw [show wbT (bytesTo n1 2 2) 0 = ⟨(bytesTo n1 2 2).toArray⟩ from if_pos rfl]
  have hz := bytesTo_size n1 2
  generalize (⟨(bytesTo n1 2 2).toArray⟩ : ByteArray) = sr at hz ⊢
  have x1' : w3.cell? ⟨s, 1, none⟩ = some (.pointer (some ⟨bb, 0, none⟩)) := (hb3.cell (p := ⟨s, 1, none⟩) hls).trans x1
  have hcall := hput.out w3 sr hz hb3
  clear hput ht2 ht3 hw2 hn2 ho2 hb2 hb0 hz
  go_wp2_with fail
  refine hcall.mono ?_
  rintro e w4 ⟨rfl, recs', ys, h1, h2, h3, h4, h5, h6⟩
  have hs3 := hb3.size
  have H1 := Lib.hid h1
  have H2 := Lib.hid h2
  have H6 := Lib.hid h6
  clear h1 h2 h6
  go_wp2
  go_ret
  exact ⟨rfl, recs', ys, sr, H1.out, ownsRow_base H2.out hs3, h3, h4, h5, (Touch.of_below hb3 _).trans H6.out⟩

theorem cells_ne_row {w : World} {a : Option Addr} {c b n : Nat} {cs : Array Value} {t : TypeId} {fr : Nat × Nat} {xs : List Value} (h : Cells w (.slice a n c) xs) (hb : w.heap[b]? = some (.cells cs t fr)) (hn : cs.size < xs.length) : ∀ k, (Value.slice a n c).ownBlock = some k → k ≠ b := by
  intro k hk e
  subst e
  obtain ⟨a', c', he, hc⟩ := h
  injection he with h1 h2 h3
  subst h1
  obtain ⟨b', off, rfl, hl, hcc⟩ := hc (by intro e; subst e; simp at hn)
  simp [Value.ownBlock] at hk
  subst hk
  have := hcc (xs.length - 1) (by omega)
  rw [cell_of_row _ _ (off + (xs.length - 1)) _ _ _ hb, Array.getElem?_eq_none (by omega)] at this
  cases this

set_option maxRecDepth 100000 in
set_option maxHeartbeats 4000000 in
theorem gsign_one (s kb hi bb d g first sz R at' turn nend : Nat) (seed : List UInt8) (m : ByteArray) (recs : Value) (rl xs : List ByteArray) (w : World) (hK : Kon w) (hs : SignerAt w s kb bb 0) (hk : KeyIn w kb hi seed) (hseed : seed.length ≤ 1000) (hm : m.size ≤ 1000) (hb : BookAt w bb d first sz at' turn nend recs) (hd : DiskAt w d g xs (.slice none 0 0))
    (hro : w.ownsRow R 9 1 recs rl.length (strs rl)) (hrn : ∀ k, recs.ownBlock = some k → k ≠ d ∧ k ≠ g) (hrl : rl.length < 65535) (hsz : nend < sz) (hsz64 : sz < 65536) (hpos : at' + nend < xs.length) (h64 : xs.length < 65536) (hx64 : ∀ x ∈ xs, x.size = 64) (hturn : turn < 4294967296) (hdk : d < kb) (hgk : g < kb) (hhb : hi ≤ bb) (hbs : bb < s) (hKd : 0 < d) (hKg : 0 < g) :
    Calls Tryz.prog 84 #[.pointer (some ⟨s, 0, none⟩), .string m] w fun e w' => ∃ v, e = .returned (.tuple #[v, .int .i64 0]) ∧ SigAt w' v seed m.data.toList ∧ SignerAt w' s kb bb 1 ∧ KeyIn w' kb hi seed ∧ Touch (fun k => k = bb ∨ k = d ∨ k = g ∨ k = s) w w' := by
  obtain ⟨x0, x1, x2, _⟩ := hs.cells
  have hlk : kb < hi := by obtain ⟨_, _, _, _, h, _⟩ := hk; exact h
  have HS := Lib.hid hs
  have HK := Lib.hid hK
  have HKey := Lib.hid hk
  have hres := Lib.hid (fun (W : World) (hB : Below w.heap.size w W) => greserve_one s kb bb 0 d g first sz R at' turn nend recs rl xs W (hK.old hB) ((hB.block s (lt_of_heap hs)).trans hs) ((hB.block bb (lt_of_heap hb)).trans hb) (hd.below hB hd.lt.1 hd.lt.2) ((Touch.of_below hB (fun _ => False)).own hro (fun _ _ h => h)) hrn hrl hsz hsz64 hpos h64 hx64 hturn (by decide))
  have hls := lt_of_heap hs
  clear hs hK hk hb hd hro hrn hrl hsz hsz64 hpos h64 hx64 hturn
  go_enter Tryz.func84, Tryz.ntmps84
  go_wp2_with fail
  have rowR : (w.alloc (.cells #[.int .i64 0, .slice none 0 0, .slice none 0 0] 84)).heap[w.heap.size]? = some (.cells #[.int .i64 0, .slice none 0 0, .slice none 0 0] 84 (0, 0)) := heap_alloc_new _ _
  have hB1 : Below w.heap.size w (w.alloc (.cells #[.int .i64 0, .slice none 0 0, .slice none 0 0] 84)) := (Below.refl _ _).alloc (Nat.le_refl _) _
  generalize (w.alloc (.cells #[.int .i64 0, .slice none 0 0, .slice none 0 0] 84)) = W1 at rowR hB1 ⊢
  have z0 := (hB1.cell (p := ⟨s, 0, none⟩) hls).trans x0
  have z2 := (hB1.cell (p := ⟨s, 2, none⟩) hls).trans x2
  have hkey1 : KeyIn W1 kb hi seed := HKey.out.below hB1 (by obtain ⟨_, _, _, _, _, _, _, h⟩ := HKey.out; exact h)
  have hcnt := Lib.hid (fun n => (xcount_any kb seed (W1.drewN n) (hkey1.below (below_drewN (B := W1.heap.size) W1 n) (by obtain ⟨_, _, _, _, _, _, _, h⟩ := hkey1; exact h)).at).mono fun e w' h => (⟨h.1, h.2.symm⟩ : _ ∧ w' = W1.drewN n))
  go_quiet ((go_at_call 130; exact Calls.quiet_of_same (hcnt.out _)))
  have hB2 := hB1.trans (below_drewN (B := w.heap.size) W1 nq)
  have rowR2 : (W1.drewN nq).heap[w.heap.size]? = some (.cells #[.int .i64 0, .slice none 0 0, .slice none 0 0] 84 (0, 0)) := rowR
  generalize W1.drewN nq = W2 at hB2 rowR2 ⊢
  clear hcnt rowR z0 z2 hkey1 hB1
  go_wp2_with fail
  refine (hres.out W2 hB2).mono ?_
  rintro e w3 ⟨rfl, recs', ys, sr, hb3, ho3, hyl, hy64, hd3, hT3⟩
  clear hres hb3 ho3 hyl hy64 hd3
  have hlt3 := hT3.size
  have rowR3 := hT3.heap rowR2 (by rintro (h | h | h) <;> omega)
  have rowS3 := hT3.heap ((hB2.block s hls).trans HS.out) (by rintro (h | h | h) <;> omega)
  have key3 : KeyIn w3 kb hi seed := (HKey.out.below hB2 (by obtain ⟨_, _, _, _, _, _, _, h⟩ := HKey.out; exact h)).touch hT3 (fun k h1 h2 => by rintro (h | h | h) <;> omega)
  have hTw : Touch (fun k => k = bb ∨ k = d ∨ k = g ∨ k = s) w w3 := (Touch.of_below hB2 _).trans (hT3.mono (fun k h => .inl (by rcases h with h | h | h; exact .inl h; exact .inr (.inl h); exact .inr (.inr (.inl h)))))
  obtain ⟨q0, q1, q2, f0, f1, f2⟩ := three_of_row rowS3
  have R3 := Lib.hid rowR3
  have S3 := Lib.hid rowS3
  clear rowR2 rowR3 rowS3 hT3 hB2
  go_wp2_with fail
  have rowS4 := heap_setCell_same w3 s 2 _ _ (.int .i64 1) S3.out
  have hT4 : Touch (· = s) w3 (w3.setCell ⟨s, 2, none⟩ (.int .i64 1)) := Touch.setCell (S := (· = s)) w3 ⟨s, 2, none⟩ _ rfl
  generalize (w3.setCell ⟨s, 2, none⟩ (.int .i64 1)) = w4 at rowS4 hT4 ⊢
  have rowS4 : w4.heap[s]? = some (.cells #[.pointer (some ⟨kb, 0, none⟩), .pointer (some ⟨bb, 0, none⟩), .int .i64 1] 235 (0, 0)) := rowS4
  have rowR4 := hT4.heap R3.out (by omega)
  have key4 := key3.touch hT4 (fun k h1 h2 => by omega)
  have hTw4 := hTw.trans (hT4.mono (fun k h => .inl (.inr (.inr (.inr h)))))
  clear q0 q1 q2 f0 f1 f2 key3 hTw R3 S3 hT4
  have hK4 : Kon w4 := HK.out.touch hTw4 (by rintro (h | h | h | h) <;> omega)
  have hl4 := lt_of_heap rowS4
  have hr4 := lt_of_heap rowR4
  have hcall := Lib.hid (xsign_any kb seed m w4.drew (key4.below (below_drew w4) (by obtain ⟨_, _, _, _, _, _, _, h⟩ := key4; exact h)).at hseed hm (hK4.old (below_drew w4)))
  obtain ⟨p0, p1, p2, _, _, _⟩ := three_of_row rowS4
  obtain ⟨q0, q1, q2, f0, f1, f2⟩ := three_of_row rowR4
  have HP := Lib.hid (fun w5 (hb : Below w4.drew.heap.size w4.drew w5) => three_of_row (((below_call hb).block s hl4).trans rowS4))
  have HQ := Lib.hid (fun w5 (hb : Below w4.drew.heap.size w4.drew w5) => three_of_row (((below_call hb).block _ hr4).trans rowR4))
  have RS := Lib.hid rowS4
  have RR := Lib.hid rowR4
  have HT4 := Lib.hid hTw4
  have HKey4 := Lib.hid key4
  have Hl4 := Lib.hid hl4
  have Hr4 := Lib.hid hr4
  clear rowS4 rowR4 hTw4 key4 hl4 hr4 hK4 x0 x1 x2 hlk hdk hgk hhb hbs hKd hKg hlt3
  generalize hrb : w.heap.size = rb at q0 q1 q2 f0 f1 f2 HQ RR Hr4 ⊢
  have Hrb := Lib.hid hrb
  clear hrb
  have hw0 : IntKind.i64.wrap 0 = 0 := rfl
  go_region_law (first | (go_simp; go_at_call 75; (with_reducible refine hcall.out.mono ?_); rintro r w5 ⟨v, rfl, ⟨a5, c5, rfl, hcl5⟩, hb5⟩; obtain ⟨p0', p1', p2', _, _, _⟩ := HP.out _ hb5; obtain ⟨q0', q1', q2', f0', f1', f2'⟩ := HQ.out _ hb5))
  all_goals
    have hlt5 := (below_call hb5).size
    have rowR5 := ((below_call hb5).block rb Hr4.out).trans RR.out
    have rowS5 := ((below_call hb5).block s Hl4.out).trans RS.out
    have hT5 := HT4.out.trans (Touch.of_below (below_call hb5) _)
    have key5 := HKey4.out.below (below_call hb5) (by obtain ⟨_, _, _, _, _, _, _, h⟩ := HKey4.out; exact h)
    have hrow := three_store (.int .i64 0) (.slice a5 35 c5) (.slice none 0 0) rowR5
    have hT6 := three_touch (w := w5) (b := rb) (.int .i64 0) (.slice a5 35 c5) (.slice none 0 0)
    have hne := cells_ne_row hcl5 rowR5 (by rw [txs_length, sigOf_length]; decide)
    have hcl6 := hT6.cells hcl5 hne
    have hTw6 := hT5.then hT6 (fun k h => .inr (by have := Hrb.out; omega))
    have rowS6 := hT6.heap rowS5 (by have := Hrb.out; omega)
    have key6 := key5.touch hT6 (fun k h1 h2 => by
      obtain ⟨_, _, _, _, h, _, _, hh⟩ := HKey.out
      have := Hrb.out; omega)
    simp only [Act.put, List.getElem_toArray, List.getElem_cons_succ, List.getElem_cons_zero, List.setIfInBounds_toArray, List.set_cons_succ, List.set_cons_zero]
    generalize (((w5.setCell ⟨rb, 0, none⟩ (.int .i64 0)).setCell ⟨rb, 1, none⟩ (.slice a5 35 c5)).setCell ⟨rb, 2, none⟩ (.slice none 0 0)) = V at hrow hcl6 hTw6 rowS6 key6 hT6 ⊢
    clear p0 p1 p2 p0' p1' p2' q0 q1 q2 f0 f1 f2 q0' q1' q2' f0' f1' f2' hT6 hne hT5 key5 rowR5 rowS5 hcl5 hb5 HP HQ
    obtain ⟨p0, p1, p2, _, _, _⟩ := three_of_row hrow
    have H1 := Lib.hid hcl6
    have H2 := Lib.hid hTw6
    have H3 := Lib.hid rowS6
    have H4 := Lib.hid key6
    clear hcl6 hTw6 rowS6 key6 hrow
    go_wp2
    refine bodyPost_ret (v := .tuple #[.agg #[.int .i64 0, .slice a5 35 c5, .slice none 0 0], .int .i64 0]) ?_ rfl ⟨_, rfl, ⟨a5, c5, rfl, H1.out⟩, H3.out, H4.out, H2.out⟩
    simp [results, Tryz.f84, go_sem, p0, p1, p2]

end Go.Proofs.YtcgkomafaepjnaaGreatDoor
namespace Go.Proofs.YtcgkomafaepjnaaGreatDoor
open Go.RowKit

set_option maxRecDepth 100000 in
set_option maxHeartbeats 4000000 in
theorem signs_any (w : World) (hK : Kon w) :
    Calls Tryz.prog 40 #[] w fun e w' => e = .returned (.bool true) ∧ Below w.heap.size w w' := by
  have hKl := hK.lt
  have HK := Lib.hid hK
  clear hK
  go_enter Tryz.func40, Tryz.ntmps40
  go_wp2_with fail
  refine (snew_any w).mono ?_
  rintro e w1 ⟨d, rfl, hd0, g, hg0, hd, hb1⟩
  have hK1 := HK.out.old hb1
  have hl1 := hd.lt
  have ho := Lib.hid (gopen_zero d g 0 8 (secL 8) ⟨#[115, 101, 101, 100]⟩ (by decide) (Nat.le_refl _) (by intro x hx; simp [secL] at hx; exact hx) (by decide) (by decide) w1 hK1 hd)
  have HD := Lib.hid hd
  have HB1 := Lib.hid hb1
  have HK1 := Lib.hid hK1
  clear hd hb1 hK1
  go_wp2_with fail
  refine ho.out.mono ?_
  rintro e w2 ⟨s, kb, hi, bb, rfl, hs, hk, hbk, hkb, hhb, hbs, hb2⟩
  clear ho
  have hlt : kb < hi := by obtain ⟨_, _, _, _, h, _⟩ := hk; exact h
  have hK2 := HK1.out.old hb2
  have hsg := Lib.hid (gsign_one s kb hi bb d g 0 4 0 0 0 0 _ ⟨#[109]⟩ (.slice none 0 0) [] (secL 8) w2 hK2 hs hk (by decide) (by decide) hbk (HD.out.below hb2 hl1.1 hl1.2)
    (World.ownsRow_nil w2 _ _ _) (by intro k hk; cases hk) (by decide) (by decide) (by decide) (by decide) (by decide) (by intro x hx; simp [secL] at hx; subst hx; rfl) (by decide) (by omega) (by omega) hhb hbs (by omega) (by omega))
  have HB2 := Lib.hid hb2
  have HK2 := Lib.hid hK2
  clear hs hk hbk hK2 hb2
  go_wp2_with fail
  refine hsg.out.mono ?_
  rintro e w3 ⟨v, rfl, hv, hs3, hk3, hT⟩
  clear hsg
  have hK3 := HK2.out.touch hT (by rintro (h | h | h | h) <;> omega)
  have hB3 : Below w.heap.size w w3 := (HB1.out.trans (HB2.out.mono HB1.out.size)).trans (hT.below (B := w.heap.size) (by rintro k (h | h | h | h) <;> omega) (by have := HB1.out.size; have := HB2.out.size; omega))
  obtain ⟨a3, c3, rfl, hcl3⟩ := hv
  have hrow := heap_alloc_new w3 (.cells #[.int .i64 0, .slice a3 35 c3, .slice none 0 0] 84)
  have hB4 : Below w3.heap.size w3 (w3.alloc (.cells #[.int .i64 0, .slice a3 35 c3, .slice none 0 0] 84)) := (Below.refl _ _).alloc (Nat.le_refl _) _
  have hls := lt_of_heap hs3
  have HC := Lib.hid hcl3
  have HS := Lib.hid hs3
  have HKey := Lib.hid hk3
  have HK3 := Lib.hid hK3
  have HB3 := Lib.hid hB3
  clear hcl3 hs3 hk3 hK3 hB3 hT hd0 hg0 hl1 hkb hhb hbs hlt hKl
  go_wp2_with fail
  generalize (w3.alloc (.cells #[.int .i64 0, .slice a3 35 c3, .slice none 0 0] 84)) = V at hrow hB4 ⊢
  have hVl := lt_of_heap hrow
  have hKeep : ∀ W', Below V.heap.size V W' → (W'.cell? ⟨w3.heap.size, 0, none⟩ = some (.int .i64 0) ∧ W'.cell? ⟨w3.heap.size, 1, none⟩ = some (.slice a3 35 c3) ∧ W'.cell? ⟨w3.heap.size, 2, none⟩ = some (.slice none 0 0) ∧ Below V.heap.size V W') := fun W' hb => by
    obtain ⟨p0, p1, p2, _, _, _⟩ := three_of_row ((hb.block _ hVl).trans hrow)
    exact ⟨p0, p1, p2, hb⟩
  have HKeep := Lib.hid hKeep
  have c1 := Lib.hid (gpublic_any s kb bb 1 hi [115, 101, 101, 100] V.drew ((below_drew V).block s (Nat.lt_of_lt_of_le hls hB4.size) |>.trans ((hB4.block s hls).trans HS.out)) ((HKey.out.below hB4 (by obtain ⟨_, _, _, _, _, _, _, h⟩ := HKey.out; exact h)).below (below_drew V) (by obtain ⟨_, _, _, _, _, _, _, h⟩ := HKey.out; exact Nat.le_trans h hB4.size)))
  have c2 := Lib.hid (fun (W5 : World) (hb : Below V.heap.size V W5) => xverify_any [115, 101, 101, 100] ⟨#[109]⟩ (.agg #[.int .i64 0, .slice a3 35 c3, .slice none 0 0]) W5 ⟨a3, c3, rfl, (HC.out.old hB4).old hb⟩ (by decide) ((HK3.out.old hB4).old hb))
  have hS0 := Lib.hid (HKeep.out _ (below_drew V))
  have hS1 := Lib.hid (fun w5 (hb5 : Below V.drew.heap.size V.drew w5) => HKeep.out w5 (below_call hb5))
  have hS2 := Lib.hid (fun w5 w6 (hb5 : Below V.drew.heap.size V.drew w5) (hb6 : Below w5.heap.size w5 w6) => HKeep.out w6 ((below_call hb5).trans (hb6.mono (below_call hb5).size)))
  have c2' := Lib.hid (fun (W5 : World) (hb : Below V.drew.heap.size V.drew W5) => c2.out W5 (below_call hb))
  clear hKeep hrow c2
  go_region_held3 (fun W' => W'.cell? ⟨w3.heap.size, 0, none⟩ = some (.int .i64 0) ∧ W'.cell? ⟨w3.heap.size, 1, none⟩ = some (.slice a3 35 c3) ∧ W'.cell? ⟨w3.heap.size, 2, none⟩ = some (.slice none 0 0) ∧ Below V.heap.size V W') (first | exact hS0.out | exact hS2.out _ _ (by assumption) (by assumption) | exact hS1.out _ (by assumption)) (first | (go_at_call 85; with_reducible refine c1.out.mono ?_; rintro r w5 ⟨rfl, hb5⟩) | (go_at_call 86; with_reducible refine (c2'.out _ (by assumption)).mono ?_; rintro r w6 ⟨rfl, hb6⟩))
  obtain ⟨q0, q1, q2, hb7⟩ := hS2.out _ _ hb5 hb6
  go_wp2
  go_ret
  exact ⟨rfl, (HB3.out.trans (hB4.mono HB3.out.size)).trans (hb7.mono (by have := HB3.out.size; have := hB4.size; omega))⟩

end Go.Proofs.YtcgkomafaepjnaaGreatDoor
