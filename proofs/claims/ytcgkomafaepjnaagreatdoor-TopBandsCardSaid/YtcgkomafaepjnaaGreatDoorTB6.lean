/- digits.Of: of sixteen bytes the thirty-five digits, in a list of the call's own; of another text none. Conditions: none. | Package wots: the chains of a signature for one use: what it makes and that what signs recovers the public key. Conditions: leaves below 256, seeds of at most a thousand bytes; the round's constants hold what their initialiser lays. | Package smt: leaf, Leaf, Join. Conditions: short texts. | Package smt: node, the node above rising keys that begin alike. Conditions: a tree of few short texts. | Package smt: Keys: the keys, rising. Conditions: a tree of few short texts. | slices.DeleteFunc of the keys without a beginning; its closures. Conditions: short texts. | Package smt: Node, Root, Copy. Conditions: a tree of few short texts. | Package band: Count, Of; package proof: right, turned, node. Conditions: keys of sixteen bytes, depths that may be. -/
import Derived.Test.YtcgkomafaepjnaaGreatDoorRows
import Derived.Test.YtcgkomafaepjnaaGreatDoorTB5
import Derived.BigQuiet
import Derived.Deep.QuietTactic
import Derived.Test.YtcgkomafaepjnaaGreatDoorTB3
import Derived.Test.YtcgkomafaepjnaaGreatDoorTB1
import Derived.StillTailTactics
import Derived.Deep.RegionHeld3
namespace Go.Proofs.YtcgkomafaepjnaaGreatDoor
open Go.RowKit

/-- A byte's two digits. -/
def hiOf (b : UInt8) : Int := (b.toNat / 16 : Nat)
def loOf (b : UInt8) : Int := (b.toNat % 16 : Nat)
/-- The digits of the first k bytes, and what they are below fifteen, summed. -/
def nibs (l : List UInt8) (k : Nat) : List Int := (l.take k).flatMap fun b => [hiOf b, loOf b]
def nibSum (l : List UInt8) (k : Nat) : Int := ((l.take k).map fun b => 30 - hiOf b - loOf b).sum

theorem hiOf_wrap (b : UInt8) : wrap64 ((b.toNat : Int) / 16) = hiOf b := by
  have h := b.toNat_lt
  rw [IntWalk.wrap64_in _ (by omega)]; unfold hiOf; omega
theorem loOf_wrap (b : UInt8) : wrap64 (bits BinOp.and IntKind.u8 (b.toNat : Int) 15) = loOf b := by
  have : ∀ c : Fin 256, wrap64 (bits BinOp.and IntKind.u8 ((c.val : Nat) : Int) 15) = ((c.val % 16 : Nat) : Int) := by decide +kernel
  exact this ⟨b.toNat, b.toNat_lt⟩
theorem hiOf_lt (b : UInt8) : 0 ≤ hiOf b ∧ hiOf b ≤ 15 := by have h := b.toNat_lt; unfold hiOf; omega
theorem loOf_lt (b : UInt8) : 0 ≤ loOf b ∧ loOf b ≤ 15 := by have h := b.toNat_lt; unfold loOf; omega
theorem nibs_succ (l : List UInt8) (k : Nat) (h : k < l.length) : nibs l (k + 1) = nibs l k ++ [hiOf l[k]] ++ [loOf l[k]] := by
  unfold nibs; rw [List.take_succ_eq_append_getElem h, List.flatMap_append]; simp
theorem nibSum_succ (l : List UInt8) (k : Nat) (h : k < l.length) : nibSum l (k + 1) = nibSum l k + (15 - hiOf l[k]) + (15 - loOf l[k]) := by
  unfold nibSum; rw [List.take_succ_eq_append_getElem h, List.map_append, List.sum_append]; simp; omega
theorem nibSum_bd (l : List UInt8) (k : Nat) : 0 ≤ nibSum l k ∧ nibSum l k ≤ 30 * k := by
  induction k with
  | zero => simp [nibSum]
  | succ k ih =>
    by_cases h : k < l.length
    · have e : nibSum l (k + 1) = nibSum l k + (30 - hiOf l[k] - loOf l[k]) := by
        unfold nibSum; rw [List.take_succ_eq_append_getElem h, List.map_append, List.sum_append]; simp
      have := hiOf_lt l[k]; have := loOf_lt l[k]
      rw [e]; omega
    · have e : nibSum l (k + 1) = nibSum l k := by unfold nibSum; rw [List.take_of_length_le (by omega), List.take_of_length_le (by omega)]
      rw [e]; omega

theorem index_pair0 (x y : Int) (w : World) : (Instr.index 311 (.agg #[.int .i64 x, .int .i64 y]) (.int .i64 0)).run Tryz.prog w = .ok (.int .i64 x) w := by kernel_rfl
theorem index_pair1 (x y : Int) (w : World) : (Instr.index 311 (.agg #[.int .i64 x, .int .i64 y]) (.int .i64 1)).run Tryz.prog w = .ok (.int .i64 y) w := by kernel_rfl

/-- The check's three digits. -/
def chk (S : Int) : List Int := [S / 256, S / 16 % 16, S % 16]
/-- All thirty-five. -/
def digs (l : List UInt8) : List Int := nibs l 16 ++ chk (nibSum l 16)
theorem chk_bits (l : List UInt8) : ints (nibs l 16) ++ [.int .i64 (bits BinOp.and IntKind.i64 (nibSum l 16 / 256) 15)] ++ [.int .i64 (bits BinOp.and IntKind.i64 (nibSum l 16 / 16) 15)] ++ [.int .i64 (bits BinOp.and IntKind.i64 (nibSum l 16) 15)] = ints (digs l) := by
  obtain ⟨h0, h1⟩ := nibSum_bd l 16
  have e : (2 : Int) ^ 63 = 9223372036854775808 := by decide
  rw [i64_and15 _ (by omega) (by omega), i64_and15 _ (by omega) (by omega), i64_and15 _ (by omega) (by omega), show nibSum l 16 / 256 % 16 = nibSum l 16 / 256 from by omega]
  simp [ints, digs, chk]

theorem digs_length (s : ByteArray) (hs : s.size = 16) : (digs s.data.toList).length = 35 := by
  have h : ∀ k, k ≤ 16 → (nibs s.data.toList k).length = 2 * k := by
    intro k
    induction k with
    | zero => intro _; rfl
    | succ k ih => intro hk; rw [nibs_succ s.data.toList k (by simpa using (show k < s.size by omega))]; simp [ih (by omega)]; omega
  unfold digs chk
  simp [h 16 (Nat.le_refl _)]

theorem digs_range (s : ByteArray) : ∀ z ∈ digs s.data.toList, 0 ≤ z ∧ z ≤ 15 := by
  intro z hz
  unfold digs at hz
  rw [List.mem_append] at hz
  rcases hz with h | h
  · unfold nibs at h
    rw [List.mem_flatMap] at h
    obtain ⟨b, _, hb⟩ := h
    simp at hb
    rcases hb with rfl | rfl
    · exact hiOf_lt b
    · exact loOf_lt b
  · obtain ⟨h0, h1⟩ := nibSum_bd s.data.toList 16
    simp [chk] at h
    omega

set_option maxHeartbeats 800000 in
theorem of_yes (s : ByteArray) (w : World) (hs : s.size = 16) :
    Calls Tryz.prog 185 #[.string s] w fun e w' => ∃ v', e = .returned (.tuple #[v', .int .i64 0]) ∧ w'.ownsRow w.heap.size 3 1 v' 35 (ints (digs s.data.toList)) ∧ Below w.heap.size w w' := by
  go_enter Tryz.func185, Tryz.ntmps185
  go_wp2
  go_loopw [4, 5, 15] (fun v sum i wr => ∃ k : Nat, k ≤ 16 ∧ i = .int .i64 k ∧ sum = .int .i64 (nibSum s.data.toList k) ∧ wr.ownsRow w.heap.size 3 1 v (2 * k) (ints (nibs s.data.toList k)) ∧ Below w.heap.size w wr) (fun _ _ i _ => 16 - (intOf i).toNat)
  case atStart => exact ⟨0, Nat.zero_le _, rfl, rfl, World.ownsRow_nil _ _ _ _, Below.refl _ _⟩
  case round =>
    obtain ⟨k, hk, rfl, rfl, hown, hnx⟩ := hrel
    have hsz := hnx.size
    by_cases hlt : k < 16
    · have e1 := hiOf_wrap s[k]
      have e2 := loOf_wrap s[k]
      obtain ⟨b1, b2⟩ := hiOf_lt s[k]
      obtain ⟨b3, b4⟩ := loOf_lt s[k]
      obtain ⟨b5, b6⟩ := nibSum_bd s.data.toList k
      have Hn := Lib.hid (nibs_succ s.data.toList k (by simpa using (show k < s.size by omega)))
      have Hs := Lib.hid (nibSum_succ s.data.toList k (by simpa using (show k < s.size by omega)))
      go_wp2_with fail
      go_quiet (fail)
      clear e1 e2
      replace hown : (wr.drewN nq).ownsRow w.heap.size 3 1 u4 (2 * k) (ints (nibs s.data.toList k)) := hown
      replace hnx : Below w.heap.size w (wr.drewN nq) := hnx.trans ⟨rfl, rfl, rfl, Nat.le_refl _, fun _ _ => rfl⟩
      replace hsz := hnx.size
      generalize wr.drewN nq = wd at hown hnx hsz ⊢
      have hi0 := index_pair0
      have hi1 := index_pair1
      go_wp2
      refine wp_loop_rounds 3 ?_
      rw [rounds_succ]
      go_wp2_with (at_builtin; refine Hid.out ?_)
      unfold Hid
      refine wpList_app1 rfl rfl Tryz.underlying82 Tryz.infoInt rfl hown rfl rfl rfl ?_ ?_ hsz ?_
      · omega
      · unfold maxLen; omega
      intro v1 w1 ho1 hg1
      have hx1 := below_grown hnx hown (Nat.le_refl _) hsz hg1
      have hsz1 := hx1.size
      clear hown hg1 hnx hsz
      go_wp2
      rw [rounds_succ]
      go_wp2_with (at_builtin; refine Hid.out ?_)
      unfold Hid
      refine wpList_app1 rfl rfl Tryz.underlying82 Tryz.infoInt rfl ho1 rfl rfl rfl ?_ ?_ hsz1 ?_
      · omega
      · unfold maxLen; omega
      intro v2 w2 ho2 hg2
      have hx2 := below_grown hx1 ho1 (Nat.le_refl _) hsz1 hg2
      clear ho1 hg2 hx1 hsz1
      go_wp2
      rw [rounds_succ]
      go_wp2
      go_roundw
      case rel => exact ⟨k + 1, by omega, by go_num, by rw [Hs.out]; rfl, by rw [show 2 * (k + 1) = 2 * k + 1 + 1 from by omega, Hn.out, ints_snoc, ints_snoc]; exact ho2, hx2⟩
      case measure => simp [intOf]; omega
    · obtain rfl : k = 16 := by omega
      go_wp2
      have hchk := Lib.hid (chk_bits s.data.toList)
      refine wp_loop_rounds 4 ?_
      rw [rounds_succ]
      go_wp2_with (at_builtin; refine Hid.out ?_)
      unfold Hid
      refine wpList_app1 rfl rfl Tryz.underlying82 Tryz.infoInt rfl hown rfl rfl rfl ?_ ?_ hsz ?_
      · omega
      · unfold maxLen; omega
      intro v1 w1 ho1 hg1
      have hx1 := below_grown hnx hown (Nat.le_refl _) hsz hg1
      have hsz1 := hx1.size
      clear hown hg1 hnx hsz
      go_wp2
      rw [rounds_succ]
      go_wp2_with (at_builtin; refine Hid.out ?_)
      unfold Hid
      refine wpList_app1 rfl rfl Tryz.underlying82 Tryz.infoInt rfl ho1 rfl rfl rfl ?_ ?_ hsz1 ?_
      · omega
      · unfold maxLen; omega
      intro v2 w2 ho2 hg2
      have hx2 := below_grown hx1 ho1 (Nat.le_refl _) hsz1 hg2
      have hsz2 := hx2.size
      clear ho1 hg2 hx1 hsz1
      go_wp2
      rw [rounds_succ]
      go_wp2_with (at_builtin; refine Hid.out ?_)
      unfold Hid
      refine wpList_app1 rfl rfl Tryz.underlying82 Tryz.infoInt rfl ho2 rfl rfl rfl ?_ ?_ hsz2 ?_
      · omega
      · unfold maxLen; omega
      intro v3 w3 ho3 hg3
      have hx3 := below_grown hx2 ho2 (Nat.le_refl _) hsz2 hg3
      have hsz3 := hx3.size
      clear ho2 hg3 hx2 hsz2
      go_wp2
      rw [rounds_succ]
      go_wp2
      go_ret2
      refine ⟨_, rfl, ?_, hx3⟩
      rw [← hchk.out]
      simpa using ho3

theorem of_no (s : ByteArray) (w : World) (hs : ((s.size : Int) != 16) = true) :
    Calls Tryz.prog 185 #[.string s] w fun e w' => e = .returned (.tuple #[.slice none 0 0, .int .i64 1]) ∧ w = w' := by
  go_enter Tryz.func185, Tryz.ntmps185
  go_wp2
  go_ret2
  exact ⟨rfl, rfl⟩

end Go.Proofs.YtcgkomafaepjnaaGreatDoor
namespace Go.Proofs.YtcgkomafaepjnaaGreatDoor
open Go.RowKit

theorem strs_cells (W : World) (xs : List ByteArray) (n : Nat) (hn : xs.length = n) : Cells (W.alloc (.cells (strs xs).toArray 9)) (.slice (some ⟨W.heap.size, 0, none⟩) n n) (strs xs) := by
  have := cells_alloc W (strs xs).toArray 9 n
  rw [show (strs xs).toArray.size = n from by rw [List.size_toArray, strs, List.length_map, hn]] at this
  exact this
/-- Tagged of texts that stand in a list just made. -/
theorem tagged_new (tag : Nat) (xs : List ByteArray) (n : Nat) (hn : xs.length = n) (W : World) (htag : tag < 256) (hN : n ≤ 300) (hlen : (tagIn tag (xs.map (·.data.toList))).length ≤ 1099511627776) (hK : Kon W) :
    Calls Tryz.prog 9 #[.int .u8 tag, .slice (some ⟨W.heap.size, 0, none⟩) n n] (W.alloc (.cells (strs xs).toArray 9)) fun e w' => e = .returned (.string ⟨(tagOf tag (xs.map (·.data.toList))).toArray⟩) ∧ Below W.heap.size W w' := by
  have hb : Below W.heap.size W (W.alloc (.cells (strs xs).toArray 9)) := (Below.refl _ _).alloc (Nat.le_refl _) _
  refine (tagged_any tag _ xs _ htag (strs_cells W xs n hn) (by omega) hlen (hK.old hb)).mono ?_
  rintro e w' ⟨he, hb'⟩
  exact ⟨he, hb.trans (hb'.mono hb.size)⟩

/-- A place. -/
def placeOf (l c s : Nat) : List UInt8 := [0, 0, 0, UInt8.ofNat l, UInt8.ofNat c, UInt8.ofNat s]
set_option maxRecDepth 100000 in
theorem place_any (l c s : Nat) (w : World) (hl : l < 256) (hc : c < 256) (hs : s < 256) :
    Calls Tryz.prog 200 #[.int .i64 l, .int .i64 c, .int .i64 s] w fun e w' => e = .returned (.string ⟨(placeOf l c s).toArray⟩) ∧ Below w.heap.size w w' := by
  have e1 : (l : Int) / 16777216 = 0 := by omega
  have e2 : (l : Int) / 65536 = 0 := by omega
  have e3 : (l : Int) / 256 = 0 := by omega
  have hst : ∀ W : World, (convert 58 9 (.slice (some ⟨W.heap.size, 0, none⟩) 6 6)).run Tryz.prog (W.alloc (.cells #[.int .u8 0, .int .u8 0, .int .u8 0, .int .u8 l, .int .u8 c, .int .u8 s] 5)) = .ok (.string ⟨(placeOf l c s).toArray⟩) (W.alloc (.cells #[.int .u8 0, .int .u8 0, .int .u8 0, .int .u8 l, .int .u8 c, .int .u8 s] 5)) := by
    intro W
    have e : (#[.int .u8 0, .int .u8 0, .int .u8 0, .int .u8 l, .int .u8 c, .int .u8 s] : Array Value) = (bytesV (placeOf l c s)).toArray := by
      simp only [placeOf, bytesV, List.map_cons, List.map_nil]
      simp
      omega
    rw [e]
    exact run_string_block Tryz.underlying58 Tryz.underlying5 Tryz.underlying9 (heap_alloc_new W _) rfl
  go_enter Tryz.func200, Tryz.ntmps200
  go_wp2
  go_ret
  exact ⟨rfl, (Below.refl _ _).alloc (Nat.le_refl _) _⟩

theorem tagIn_len (tag : Nat) (xs : List (List UInt8)) : (tagIn tag xs).length = 1 + (xs.map fun x => 4 + x.length).sum := by
  unfold tagIn
  rw [List.length_cons, List.length_flatMap, Nat.add_comm]
  congr 2
  refine List.map_congr_left fun x _ => ?_
  rw [List.length_append, bytesTo_le]

def openOf (seed : List UInt8) : List UInt8 := tagOf 3 [seed]
theorem open_any (seed : ByteArray) (w : World) (hs : seed.size ≤ 1000) (hK : Kon w) :
    Calls Tryz.prog 105 #[.string seed] w fun e w' => e = .returned (.string ⟨(openOf seed.data.toList).toArray⟩) ∧ Below w.heap.size w w' := by
  have hT := Lib.hid (tagged_new 3 [seed] 1 rfl w (by decide) (by decide) (by rw [tagIn_len]; simp; omega) hK)
  clear hK
  go_enter Tryz.func105, Tryz.ntmps105
  go_wp2_with fail
  refine hT.out.mono ?_
  rintro e w' ⟨rfl, hb⟩
  go_wp2
  go_ret
  exact ⟨rfl, hb⟩

def secretOf (seed : List UInt8) (l c : Nat) : List UInt8 := tagOf 1 [seed, placeOf l c 0]
theorem secret_any (seed : ByteArray) (l c : Nat) (w : World) (hs : seed.size ≤ 1000) (hl : l < 256) (hc : c < 256) (hK : Kon w) :
    Calls Tryz.prog 162 #[.string seed, .int .i64 l, .int .i64 c] w fun e w' => e = .returned (.string ⟨(secretOf seed.data.toList l c).toArray⟩) ∧ Below w.heap.size w w' := by
  have HK := Lib.hid hK
  clear hK
  go_enter Tryz.func162, Tryz.ntmps162
  go_wp2_with fail
  refine (place_any l c 0 _ hl hc (by decide)).mono ?_
  rintro e w1 ⟨rfl, hb1⟩
  have hT := Lib.hid (tagged_new 1 [seed, ⟨(placeOf l c 0).toArray⟩] 2 rfl w1 (by decide) (by decide) (by rw [tagIn_len]; simp [placeOf]; omega) (HK.out.old hb1))
  go_wp2_with fail
  refine hT.out.mono ?_
  rintro e w' ⟨rfl, hb⟩
  go_wp2
  go_ret
  exact ⟨rfl, hb1.trans (hb.mono hb1.size)⟩

/-- n steps along a chain, from a step on. -/
def wk (o : List UInt8) (l c : Nat) : Nat → Nat → List UInt8 → List UInt8
  | _, 0, x => x
  | f, n + 1, x => tagOf 2 [o, placeOf l c (f + n), wk o l c f n x]
theorem wk_add (o : List UInt8) (l c f m : Nat) (x : List UInt8) : ∀ n, wk o l c f (m + n) x = wk o l c (f + m) n (wk o l c f m x)
  | 0 => rfl
  | n + 1 => by rw [← Nat.add_assoc, wk, wk, wk_add o l c f m x n, Nat.add_assoc]
theorem wk_length (o : List UInt8) (l c f n : Nat) (x : List UInt8) (hx : x.length = 16) : (wk o l c f n x).length = 16 := by
  cases n with
  | zero => exact hx
  | succ n => exact tagOf_length _ _

set_option maxRecDepth 100000 in
theorem walk_any (o x : ByteArray) (l c f t : Nat) (w : World) (ho : o.size ≤ 1000) (hx : x.size = 16) (hl : l < 256) (hc : c < 256) (hft : f ≤ t) (ht : t ≤ 15) (hK : Kon w) :
    Calls Tryz.prog 161 #[.string o, .int .i64 l, .int .i64 c, .int .i64 f, .int .i64 t, .string x] w fun e w' => e = .returned (.string ⟨(wk o.data.toList l c f (t - f) x.data.toList).toArray⟩) ∧ Below w.heap.size w w' := by
  have HK := Lib.hid hK
  have hmin : min (t : Int) 15 = (t : Int) := by omega
  have hmax : max (f : Int) 0 = (f : Int) := by omega
  have HX : Hid (x.data.toList.length = 16) := Lib.hid (by simpa using hx)
  have hx0 : x = ⟨x.data.toList.toArray⟩ := by simp
  clear hK
  go_enter Tryz.func161, Tryz.ntmps161
  go_wp2_with fail
  go_loopw [5, 13] (fun y k W => ∃ n : Nat, f + n ≤ t ∧ k = .int .i64 ((f + n : Nat) : Int) ∧ y = .string ⟨(wk o.data.toList l c f n x.data.toList).toArray⟩ ∧ Below w.heap.size w W) (fun _ k _ => t - (intOf k).toNat)
  case atStart => exact ⟨0, by omega, rfl, by rw [wk], Below.refl _ _⟩
  case round =>
    obtain ⟨n, hn, rfl, rfl, hb⟩ := hrel
    have hsz := hb.size
    obtain ⟨s, hs⟩ : ∃ s, s = f + n := ⟨_, rfl⟩
    rw [← hs] at hn ⊢
    by_cases hlt : s < t
    · have hz := wk_length o.data.toList l c f n x.data.toList HX.out
      have Hstep : Hid (wk o.data.toList l c f (n + 1) x.data.toList = tagOf 2 [o.data.toList, placeOf l c s, wk o.data.toList l c f n x.data.toList]) := Lib.hid (by rw [wk, hs])
      generalize wk o.data.toList l c f n x.data.toList = y at hz Hstep ⊢
      have Hs := Lib.hid hs
      clear hs
      go_wp2_with fail
      refine (place_any l c s _ hl hc (by omega)).mono ?_
      rintro e w1 ⟨rfl, hb1⟩
      have hT := Lib.hid (tagged_new 2 [o, ⟨(placeOf l c s).toArray⟩, ⟨y.toArray⟩] 3 rfl w1 (by decide) (by decide) (by rw [tagIn_len]; simp [placeOf, hz]; omega) (HK.out.old (hb.trans (hb1.mono hsz))))
      go_wp2_with fail
      refine hT.out.mono ?_
      rintro e w2 ⟨rfl, hb2⟩
      have hb2 : Below w.heap.size w w2 := (hb.trans (hb1.mono hsz)).trans (hb2.mono (by have := hb1.size; omega))
      clear hT
      go_wp2
      go_roundw
      case rel => exact ⟨n + 1, by have := Hs.out; omega, by have := Hs.out; go_num, by rw [Hstep.out], hb2⟩
      case measure => simp [intOf]; omega
    · have hst : s = t := by omega
      have hge : ¬ (s : Int) < (t : Int) := by omega
      have Hn : Hid (n = t - f) := Lib.hid (by omega)
      clear hst hlt
      go_wp2
      go_ret
      exact ⟨by rw [Hn.out]; rfl, hb⟩

end Go.Proofs.YtcgkomafaepjnaaGreatDoor
namespace Go.Proofs.YtcgkomafaepjnaaGreatDoor
open Go.RowKit

def lfOf (k v : Tx) : Tx := 1 :: tagOf 9 [k, v]
def nfOf (a b : Tx) : Tx := 2 :: tagOf 10 [a, b]
/-- The program's two hashes. -/
def hs : Hs := ⟨lfOf, nfOf, fun _ _ => ⟨_, rfl, tagOf_length _ _⟩, fun _ _ => ⟨_, rfl, tagOf_length _ _⟩⟩
theorem lfOf_length (k v : Tx) : (lfOf k v).length = 17 := by unfold lfOf; rw [List.length_cons, tagOf_length]
theorem nfOf_length (a b : Tx) : (nfOf a b).length = 17 := by unfold nfOf; rw [List.length_cons, tagOf_length]

theorem one_list (x : Tx) (y : UInt8) : ((⟨x.toArray⟩ : ByteArray).toList == [y]) = (x == [y]) := by rw [ByteArray.toList_eq]

set_option maxRecDepth 100000 in
set_option maxHeartbeats 1000000 in
theorem leaf_any (x : Tx) (w : World) :
    Calls Tryz.prog 98 #[.string ⟨x.toArray⟩] w fun e w' => e = .returned (.bool (isLf x)) ∧ w' = w := by
  match x with
  | [] =>
    go_enter Tryz.func98, Tryz.ntmps98
    go_wp2
    go_ret
    exact ⟨rfl, rfl⟩
  | a :: r =>
    have e1 : ((⟨(a :: r).toArray⟩ : ByteArray).extract 0 1).toList = [a] := by rw [extract_take, ByteArray.toList_eq]; rfl
    go_enter Tryz.func98, Tryz.ntmps98
    go_wp2
    go_ret
    refine ⟨?_, rfl⟩
    have : isLf (a :: r) = (a == 1) := by
      unfold isLf
      rw [List.head?_cons, Bool.eq_iff_iff, beq_iff_eq, beq_iff_eq]; simp
    rw [this]; rfl

/-- Tagged of two texts that stand in a list just made. -/
theorem tagged_two (tag : Nat) (a b : Tx) (W : World) (htag : tag < 256) (ha : a.length ≤ 100000) (hb : b.length ≤ 100000) (hK : Kon W) :
    Calls Tryz.prog 9 #[.int .u8 tag, .slice (some ⟨W.heap.size, 0, none⟩) 2 2] (W.alloc (.cells #[.string ⟨a.toArray⟩, .string ⟨b.toArray⟩] 9)) fun e w' => e = .returned (.string ⟨(tagOf tag [a, b]).toArray⟩) ∧ Below W.heap.size W w' := by
  have h := tagged_new tag [⟨a.toArray⟩, ⟨b.toArray⟩] 2 rfl W htag (by decide) (by rw [tagIn_len]; simp; omega) hK
  simp only [List.map_cons, List.map_nil] at h
  exact h

set_option maxRecDepth 100000 in
set_option maxHeartbeats 1000000 in
theorem lfnode_any (k v : Tx) (w : World) (hk : k.length ≤ 100000) (hv : v.length ≤ 100000) (hK : Kon w) :
    Calls Tryz.prog 94 #[.string ⟨k.toArray⟩, .string ⟨v.toArray⟩] w fun e w' => e = .returned (.string ⟨(lfOf k v).toArray⟩) ∧ Below w.heap.size w w' := by
  have hT := Lib.hid (tagged_two 9 k v w (by decide) hk hv hK)
  have hc := Lib.hid (bytes_concat [1] (tagOf 9 [k, v]))
  have hl := tagOf_length 9 [k, v]
  unfold lfOf
  generalize tagOf 9 [k, v] = T at hT hc hl ⊢
  clear hK
  go_enter Tryz.func94, Tryz.ntmps94
  go_wp2_with fail
  refine hT.out.mono ?_
  rintro e w' ⟨rfl, hb⟩
  go_wp2
  go_ret
  exact ⟨congrArg (fun s => Ending.returned (.string s)) hc.out, hb⟩

theorem jn_first (a b : Tx) (h : (a == emp && (b == emp || isLf b)) = true) : hs.jn a b = b := by unfold Hs.jn; rw [h]; rfl
theorem jn_second (a b : Tx) (h : (a == emp && (b == emp || isLf b)) = false) (h2 : (b == emp && isLf a) = true) : hs.jn a b = a := by unfold Hs.jn; rw [h, h2]; rfl
theorem jn_third (a b : Tx) (h : (a == emp && (b == emp || isLf b)) = false) (h2 : (b == emp && isLf a) = false) : hs.jn a b = nfOf a b := by unfold Hs.jn; rw [h, h2]; rfl

set_option maxRecDepth 100000 in
set_option maxHeartbeats 2000000 in
theorem join_any (a b : Tx) (w : World) (ha : a.length ≤ 100000) (hb : b.length ≤ 100000) (hK : Kon w) :
    Calls Tryz.prog 52 #[.string ⟨a.toArray⟩, .string ⟨b.toArray⟩] w fun e w' => e = .returned (.string ⟨(hs.jn a b).toArray⟩) ∧ Below w.heap.size w w' := by
  have hT := Lib.hid (tagged_two 10 a b w (by decide) ha hb hK)
  have hc := Lib.hid (bytes_concat [2] (tagOf 10 [a, b]))
  have hl := tagOf_length 10 [a, b]
  have j1 := Lib.hid (jn_first a b)
  have j2 := Lib.hid (jn_second a b)
  have j3 := Lib.hid (jn_third a b)
  unfold nfOf at j3
  generalize tagOf 10 [a, b] = T at hT hc hl j3
  have la := leaf_any a w
  have lb := leaf_any b w
  have ta := one_list a 0
  have tb := one_list b 0
  change _ = (a == emp) at ta
  change _ = (b == emp) at tb
  have ta2 : (a == [0]) = (a == emp) := rfl
  have tb2 : (b == [0]) = (b == emp) := rfl
  clear ha hb hK
  generalize hs.jn a b = J at j1 j2 j3 ⊢
  generalize (a == emp) = ea at ta ta2 j1 j2 j3
  generalize (b == emp) = eb at tb tb2 j1 j2 j3
  generalize isLf a = fa at la j1 j2 j3
  generalize isLf b = fb at lb j1 j2 j3
  cases ea
  · cases eb
    · obtain rfl : J = 2 :: T := j3.out rfl rfl
      clear j1 j2 j3 la lb
      go_enter Tryz.func52, Tryz.ntmps52
      go_wp2_with fail
      refine hT.out.mono ?_
      rintro e w' ⟨rfl, hb⟩
      go_wp2
      go_ret
      exact ⟨congrArg (fun s => Ending.returned (.string s)) hc.out, hb⟩
    · cases fa
      · obtain rfl : J = 2 :: T := j3.out rfl rfl
        clear j1 j2 j3 lb
        go_enter Tryz.func52, Tryz.ntmps52
        go_wp2_with fail
        refine la.mono ?_
        rintro e w' ⟨rfl, rfl⟩
        clear la
        go_wp2_with fail
        refine hT.out.mono ?_
        rintro e w' ⟨rfl, hb⟩
        go_wp2
        go_ret
        exact ⟨congrArg (fun s => Ending.returned (.string s)) hc.out, hb⟩
      · obtain rfl : J = a := j2.out rfl rfl
        clear j1 j2 j3 lb hT hc hl
        go_enter Tryz.func52, Tryz.ntmps52
        go_wp2_with fail
        refine la.mono ?_
        rintro e w' ⟨rfl, rfl⟩
        clear la
        go_wp2
        go_ret
        exact ⟨rfl, Below.refl _ _⟩
  · cases eb
    · cases fb
      · obtain rfl : J = 2 :: T := j3.out rfl rfl
        clear j1 j2 j3 la
        go_enter Tryz.func52, Tryz.ntmps52
        go_wp2_with fail
        refine lb.mono ?_
        rintro e w' ⟨rfl, rfl⟩
        clear lb
        go_wp2_with fail
        refine hT.out.mono ?_
        rintro e w' ⟨rfl, hb⟩
        go_wp2
        go_ret
        exact ⟨congrArg (fun s => Ending.returned (.string s)) hc.out, hb⟩
      · obtain rfl : J = b := j1.out rfl
        clear j1 j2 j3 la hT hc hl
        go_enter Tryz.func52, Tryz.ntmps52
        go_wp2_with fail
        refine lb.mono ?_
        rintro e w' ⟨rfl, rfl⟩
        clear lb
        go_wp2
        go_ret
        exact ⟨rfl, Below.refl _ _⟩
    · obtain rfl : J = b := j1.out rfl
      clear j1 j2 j3 la lb hT hc hl
      go_enter Tryz.func52, Tryz.ntmps52
      go_wp2
      go_ret
      exact ⟨rfl, Below.refl _ _⟩

end Go.Proofs.YtcgkomafaepjnaaGreatDoor
namespace Go.Proofs.YtcgkomafaepjnaaGreatDoor
open Go.RowKit

theorem nd_le (val : Tx → Tx) (n : Nat) (ks : List Tx) (hn : n ≤ 128) (hr : Row (128 - n) ks) : (hs.nd val n ks).length ≤ 17 := by
  rcases nd_shape hs val n ks hn hr with ⟨_, e⟩ | ⟨_, r, e | e, hl⟩
  · rw [e]; decide
  · rw [e]; simp; omega
  · rw [e]; simp; omega
/-- Texts in a slice: each cell, the room behind. -/
structure Keyrow (w : World) (a : Option Addr) (c : Nat) (ks : List Tx) : Prop where
  room : ks.length ≤ c
  few : ks.length ≤ 100000
  cell : ∀ k, k < ks.length → ∃ g o, a = some ⟨g, o, none⟩ ∧ g < w.heap.size ∧ w.cell? ⟨g, o + k, none⟩ = some (.string ⟨(ks.getD k []).toArray⟩)
theorem Keyrow.old {w w' : World} {a : Option Addr} {c : Nat} {ks : List Tx} (h : Keyrow w a c ks) (hb : Below w.heap.size w w') : Keyrow w' a c ks :=
  ⟨h.room, h.few, fun k hk => by
    obtain ⟨g, o, e, hg, hc⟩ := h.cell k hk
    exact ⟨g, o, e, Nat.lt_of_lt_of_le hg hb.size, (hb.cell (p := ⟨g, o + k, none⟩) hg).trans hc⟩⟩
theorem Keyrow.head {w : World} {a : Option Addr} {c : Nat} {l0 l1 : List Tx} (h : Keyrow w a c (l0 ++ l1)) : Keyrow w a c l0 := by
  have h1 := h.room
  have h2 := h.few
  rw [List.length_append] at h1 h2
  refine ⟨by omega, by omega, fun k hk => ?_⟩
  obtain ⟨g, o, e, hg, hc⟩ := h.cell k (by rw [List.length_append]; omega)
  refine ⟨g, o, e, hg, ?_⟩
  rw [hc, List.getD_eq_getElem?_getD, List.getElem?_append_left hk, ← List.getD_eq_getElem?_getD]
theorem Keyrow.tail {w : World} {a : Option Addr} {c n : Nat} {l0 l1 : List Tx} (h : Keyrow w a c (l0 ++ l1)) (hn : l0.length = n) : Keyrow w (if c = n then a else a.map (·.add n)) (c - n) l1 := by
  subst hn
  have h1 := h.room
  have h2 := h.few
  rw [List.length_append] at h1 h2
  refine ⟨by omega, by omega, fun k hk => ?_⟩
  obtain ⟨g, o, e, hg, hc⟩ := h.cell (l0.length + k) (by rw [List.length_append]; omega)
  have hadd : (⟨g, o, none⟩ : Addr).add l0.length = ⟨g, o + l0.length, none⟩ := by unfold Addr.add; split <;> simp_all
  refine ⟨g, o + l0.length, by rw [if_neg (by omega), e, Option.map_some, hadd], hg, ?_⟩
  rw [show o + l0.length + k = o + (l0.length + k) from by omega, hc, List.getD_eq_getElem?_getD, List.getElem?_append_right (by omega), Nat.add_sub_cancel_left, ← List.getD_eq_getElem?_getD]

theorem addr_add_zero (x : Addr) : x.add 0 = x := by unfold Addr.add; split <;> simp_all

set_option maxRecDepth 100000 in
set_option maxHeartbeats 2000000 in
theorem tnode_nil (p : Nat) (z : Int) (a : Option Addr) (c : Nat) (w : World) :
    Calls Tryz.prog 92 #[.pointer (some ⟨p, 0, none⟩), .slice a 0 c, .int .i64 z] w fun e w' => e = .returned (.string ⟨emp.toArray⟩) ∧ Below w.heap.size w w' := by
  go_enter Tryz.func92, Tryz.ntmps92
  go_wp2
  go_ret
  exact ⟨rfl, Below.refl _ _⟩

set_option maxRecDepth 100000 in
set_option maxHeartbeats 2000000 in
theorem tnode_one (p b : Nat) (m : Puts) (k : Tx) (z : Int) (a : Option Addr) (c : Nat) (w : World) (ht : TreeAt w p b m) (hK : Kon w) (hr : Keyrow w a c [k]) (hk : k.length = 16) :
    Calls Tryz.prog 92 #[.pointer (some ⟨p, 0, none⟩), .slice a 1 c, .int .i64 z] w fun e w' => e = .returned (.string ⟨(lfOf k (valOf m k)).toArray⟩) ∧ Below w.heap.size w w' := by
  have hd := (Below.refl w.heap.size w).drew
  obtain ⟨g, o, rfl, hg, hc⟩ := hr.cell 0 (by simp)
  have hc : w.cell? ⟨g, o, none⟩ = some (.string ⟨k.toArray⟩) := hc
  have hm := ht.cell
  have hl := ht.look false ⟨k.toArray⟩ (by show k.toArray.size ≤ maxLen; rw [List.size_toArray, hk]; decide)
  have hl' := (ht.old hd).look false ⟨k.toArray⟩ (by show k.toArray.size ≤ maxLen; rw [List.size_toArray, hk]; decide)
  rw [if_neg (by decide)] at hl hl'
  have hcall := Lib.hid (lfnode_any k (valOf m k) w.drew (by omega) (by have := valOf_length ht.small k; omega) (hK.old hd))
  clear ht hK hr hd hk
  generalize valOf m k = v at hl hl' hcall ⊢
  go_enter Tryz.func92, Tryz.ntmps92
  go_wp2_with fail
  go_still_tail 11, (by kernel_rfl)
  change wpList _ _ _ _ _ w.drew
  go_wp2_with fail
  refine hcall.out.mono ?_
  rintro e w' ⟨rfl, hb⟩
  go_wp2
  go_ret
  exact ⟨rfl, (Below.refl w.heap.size w).drew.trans hb⟩

theorem below_call0 {V W : World} (h : Below V.drew.heap.size V.drew W) : Below V.heap.size V W := (Below.refl V.heap.size V).drew.trans h

set_option maxRecDepth 100000 in
set_option maxHeartbeats 4000000 in
theorem tnode_any (p b : Nat) (m : Puts) : ∀ (n : Nat) (z : Int) (a : Option Addr) (c len : Nat) (ks : List Tx) (w : World), n ≤ 128 → z = ((128 - n : Nat) : Int) → len = ks.length → Row (128 - n) ks → TreeAt w p b m → Kon w → Keyrow w a c ks →
    Calls Tryz.prog 92 #[.pointer (some ⟨p, 0, none⟩), .slice a len c, .int .i64 z] w fun e w' => e = .returned (.string ⟨(hs.nd (valOf m) n ks).toArray⟩) ∧ Below w.heap.size w w' := by
  intro n
  induction n with
  | zero =>
    intro z a c len ks w hn hz hlen hrow ht hK hr
    rcases ks with _ | ⟨k, _ | ⟨y, l⟩⟩
    · subst hlen; rw [nd_nil]; exact tnode_nil p z a c w
    · subst hlen; rw [nd_one]; exact tnode_one p b m k z a c w ht hK hr (hrow.len k (by simp))
    · have := hrow.end; simp at this
  | succ n ih =>
    intro z a c len ks w hn hz hlen hrow ht hK hr
    rcases ks with _ | ⟨x, _ | ⟨y, l⟩⟩
    · subst hlen; rw [nd_nil]; exact tnode_nil p z a c w
    · subst hlen; rw [nd_one]; exact tnode_one p b m x z a c w ht hK hr (hrow.len x (by simp))
    · have h2 : 2 ≤ (x :: y :: l).length := by simp
      generalize x :: y :: l = ks at hrow hr hlen h2
      obtain ⟨d, hd⟩ : ∃ d, 128 - (n + 1) = d := ⟨_, rfl⟩
      have hd1 : 128 - n = d + 1 := by omega
      have hdn : 127 - n = d := by omega
      rw [hd] at hz hrow
      rw [Hs.nd, hdn]
      have r0 := hrow.half 0
      have r1 := hrow.half 1
      have hcut := half_cut hrow (by omega)
      have b0 : ∀ k ∈ ks.filter (fun k => bitAt k d == 0), bitAt k d = 0 := fun k hk => beq_iff_eq.1 (List.mem_filter.1 hk).2
      have b1 : ∀ k ∈ ks.filter (fun k => bitAt k d == 1), bitAt k d = 1 := fun k hk => beq_iff_eq.1 (List.mem_filter.1 hk).2
      have hks16 := hrow.len
      generalize (ks.filter fun k => bitAt k d == 0) = l0 at r0 hcut b0 ⊢
      generalize (ks.filter fun k => bitAt k d == 1) = l1 at r1 hcut b1 ⊢
      subst hcut
      rw [← hd1] at r0 r1
      obtain ⟨n0, hn0⟩ : ∃ n0, l0.length = n0 := ⟨_, rfl⟩
      have hsum : len = n0 + l1.length := by rw [hlen, List.length_append, hn0]
      have ha0 := hr.head
      have ha1 := hr.tail hn0
      have e0 := nd_le (valOf m) n l0 (by omega) r0
      have e1 := nd_le (valOf m) n l1 (by omega) r1
      have C0 := Lib.hid (fun (W : World) (hb : Below w.heap.size w W) => ih ((d : Int) + 1) a c n0 l0 W (by omega) (by omega) hn0.symm r0 (ht.old hb) (hK.old hb) (ha0.old hb))
      have C1 := Lib.hid (fun (W : World) (hb : Below w.heap.size w W) => ih ((d : Int) + 1) (if c = n0 then a else a.map (·.add n0)) (c - n0) (len - n0) l1 W (by omega) (by omega) (by omega) r1 (ht.old hb) (hK.old hb) (ha1.old hb))
      have CJ := Lib.hid (fun (W : World) (hb : Below w.heap.size w W) => join_any (hs.nd (valOf m) n l0) (hs.nd (valOf m) n l1) W (by omega) (by omega) (hK.old hb))
      generalize hs.nd (valOf m) n l0 = N0 at C0 CJ ⊢
      generalize hs.nd (valOf m) n l1 = N1 at C1 CJ ⊢
      generalize hs.jn N0 N1 = J at CJ ⊢
      -- the bits of the keys, one behind the other
      have hcell : Hid (∀ k, k < len → ∃ g o, a = some ⟨g, o, none⟩ ∧ ∃ t : ByteArray, w.cell? ⟨g, o + k, none⟩ = some (.string t) ∧ t.size = 16 ∧ (k < n0 → bitI t.data.toList (d : Int) = 0) ∧ (¬ k < n0 → bitI t.data.toList (d : Int) = 1)) := Lib.hid (by
        intro k hk
        obtain ⟨g, o, e, hg, hc⟩ := hr.cell k (by omega)
        have hkl : k < (l0 ++ l1).length := by omega
        have hget : (l0 ++ l1).getD k [] = (l0 ++ l1)[k] := by rw [List.getD_eq_getElem?_getD, List.getElem?_eq_getElem hkl]; rfl
        refine ⟨g, o, e, _, hc, ?_, fun h0 => ?_, fun h0 => ?_⟩
        · show ((l0 ++ l1).getD k []).toArray.size = 16
          rw [List.size_toArray, hget]
          exact hks16 _ (List.getElem_mem hkl)
        · rw [bitI_nat, List.toList_toArray, hget, List.getElem_append_left (by omega)]
          exact b0 _ (List.getElem_mem _)
        · rw [bitI_nat, List.toList_toArray, hget, List.getElem_append_right (by omega)]
          exact b1 _ (List.getElem_mem _))
      have hroom := hr.room
      have hfew := hr.few
      rw [← hlen] at hroom hfew
      have hlen2 : 2 ≤ len := by omega
      have hd128 : d < 128 := by omega
      have hl0 : ((len : Int) == 0) = false := by simp; omega
      have hl1 : ((len : Int) == 1) = false := by simp; omega
      have hn0l : n0 ≤ len := by omega
      have hw1 : IntKind.i64.wrap ((d : Int) + 1) = (d : Int) + 1 := by rw [IntKind.wrap_i64]; omega
      have hi0 : (0 : Int) ≤ (n0 : Int) := by omega
      have hi1 : (n0 : Int) ≤ (c : Int) := by omega
      have hi2 : (n0 : Int) ≤ (len : Int) := by omega
      obtain ⟨a1, ha1e⟩ : ∃ a1, (if c = n0 then a else a.map (·.add n0)) = a1 := ⟨_, rfl⟩
      rw [ha1e] at C1
      have hsl0 : ∀ W, (Instr.slice 31 (.slice a len c) none (some (.int .i64 (n0 : Int))) none).run Tryz.prog W = .ok (.slice a n0 c) W := by
        intro W
        rw [run_slice_h W 31 a len c Tryz.underlying31 .i64 (n0 : Int) hi0 hi1]
        simp [sliced, Tryz.sizeOf9, show Tryz.prog.elem 31 = 9 from by kernel_rfl, Result.andThen]
        intro _
        cases a with
        | none => rfl
        | some x => rw [Option.map_some, addr_add_zero]
      have hsl1 : ∀ W, (Instr.slice 31 (.slice a len c) (some (.int .i64 (n0 : Int))) none none).run Tryz.prog W = .ok (.slice a1 (len - n0) (c - n0)) W := by
        intro W
        rw [run_slice_l W 31 a len c Tryz.underlying31 .i64 (n0 : Int) hi0 hi2]
        simp [sliced, Tryz.sizeOf9, show Tryz.prog.elem 31 = 9 from by kernel_rfl, Result.andThen, ← ha1e]
      clear ha1e
      have hS0 := Lib.hid (Below.refl w.heap.size w).drew
      have hS1 := Lib.hid (fun w5 (h5 : Below w.drew.heap.size w.drew w5) => below_call0 h5)
      have hS2 := Lib.hid (fun w5 w6 (h5 : Below w.drew.heap.size w.drew w5) (h6 : Below w5.heap.size w5 w6) => (below_call0 h5).trans (h6.mono (below_call0 h5).size))
      have hS3 := Lib.hid (fun w5 w6 w7 (h5 : Below w.drew.heap.size w.drew w5) (h6 : Below w5.heap.size w5 w6) (h7 : Below w6.heap.size w6 w7) => ((below_call0 h5).trans (h6.mono (below_call0 h5).size)).trans (h7.mono ((below_call0 h5).trans (h6.mono (below_call0 h5).size)).size))
      clear ih hrow hr r0 r1 b0 b1 hks16 ha0 ha1 e0 e1 ht hK hsum hlen h2 hd hd1 hdn hn0 hn
      subst hz
      go_enter Tryz.func92, Tryz.ntmps92
      go_wp2_with fail
      go_loop [7] (fun i => ∃ k : Nat, k ≤ n0 ∧ i = .int .i64 k) (fun i => n0 - (intOf i).toNat)
      case atStart => exact ⟨0, Nat.zero_le _, rfl⟩
      case round =>
        obtain ⟨k, hk, rfl⟩ := hrel
        by_cases hkl : k < len
        · obtain ⟨g, o, rfl, t, hc, ht16, hb0, hb1⟩ := hcell.out k hkl
          have hbit := bit_any t (d : Int) w (by omega)
          by_cases hk0 : k < n0
          · rw [hb0 hk0] at hbit
            clear hb0 hb1
            go_wp2_with fail
            refine hbit.mono ?_
            rintro e w' ⟨rfl, rfl⟩
            clear hbit
            go_wp2
            go_round
            case rel => exact ⟨k + 1, by omega, by go_num⟩
            case measure => simp [intOf]; omega
          · rw [hb1 hk0] at hbit
            obtain rfl : k = n0 := by omega
            clear hb0 hb1
            go_wp2_with fail
            refine hbit.mono ?_
            rintro e w' ⟨rfl, rfl⟩
            clear hbit
            go_wp2_with fail
            go_region_held3 (fun W' => Below w.heap.size w W') (first | exact hS0.out | exact hS3.out _ _ _ (by assumption) (by assumption) (by assumption) | exact hS2.out _ _ (by assumption) (by assumption) | exact hS1.out _ (by assumption)) (first | (go_at_call 92; with_reducible refine (C0.out _ hS0.out).mono ?_; rintro r w5 ⟨rfl, hb5⟩) | (go_at_call 92; with_reducible refine (C1.out _ (hS1.out _ (by assumption))).mono ?_; rintro r w6 ⟨rfl, hb6⟩) | (go_at_call 52; with_reducible refine (CJ.out _ (hS2.out _ _ (by assumption) (by assumption))).mono ?_; rintro r w7 ⟨rfl, hb7⟩))
            have hb8 := hS3.out _ _ _ hb5 hb6 hb7
            go_wp2
            go_ret
            exact ⟨rfl, hb8⟩
        · obtain rfl : k = n0 := by omega
          go_wp2_with fail
          go_region_held3 (fun W' => Below w.heap.size w W') (first | exact hS0.out | exact hS3.out _ _ _ (by assumption) (by assumption) (by assumption) | exact hS2.out _ _ (by assumption) (by assumption) | exact hS1.out _ (by assumption)) (first | (go_at_call 92; with_reducible refine (C0.out _ hS0.out).mono ?_; rintro r w5 ⟨rfl, hb5⟩) | (go_at_call 92; with_reducible refine (C1.out _ (hS1.out _ (by assumption))).mono ?_; rintro r w6 ⟨rfl, hb6⟩) | (go_at_call 52; with_reducible refine (CJ.out _ (hS2.out _ _ (by assumption) (by assumption))).mono ?_; rintro r w7 ⟨rfl, hb7⟩))
          have hb8 := hS3.out _ _ _ hb5 hb6 hb7
          go_wp2
          go_ret
          exact ⟨rfl, hb8⟩

end Go.Proofs.YtcgkomafaepjnaaGreatDoor
namespace Go.Proofs.YtcgkomafaepjnaaGreatDoor
open Go.RowKit Go.Maps Go.Sort Go.Shelf

theorem sorts_in (n : Nat) : AnyZ.SortsIn Tryz.prog Tryz.sortedA_ren Fence.wide n :=
  ⟨fun blk off cap ss W hH hblk hsz => callsIn_wide.2 (AnyM.slices_Sort_string Tryz.laysSlM6_f156 blk off cap ss W hH hblk hsz),
   fun p cap W => callsIn_wide.2 (AnyM.slices_Sort_string_none Tryz.laysSlM6_f156 p cap W)⟩

set_option maxRecDepth 100000 in
set_option maxHeartbeats 2000000 in
theorem tkeys_any (p b : Nat) (m : Puts) (w : World) (h : TreeAt w p b m) :
    Calls Tryz.prog 54 #[.pointer (some ⟨p, 0, none⟩)] w fun e w' => ∃ v, e = .returned v ∧ w'.ownsRow w.heap.size 9 1 v (keysOf m).length ((keysOf m).map encStr) ∧ (v = .slice none 0 0 ↔ keysOf m = []) ∧ Below w.heap.size w w' := by
  obtain ⟨D0, hown, hag⟩ := h.map
  have hcell := h.cell
  have hbl := hown.lt
  have hsz := size_of_own hown
  have hfew := h.few
  refine (callsIn_wide (n := 6)).1 ?_
  have hmax : Maps.size D0 ≤ maxLen := by unfold maxLen; omega
  have hbytes : Maps.size D0 * 16 ≤ 140737488355328 := by omega
  have hfin := Lib.hid (fun (ss : List Tx) (hp : ss.Perm (strKeys D0)) => sorted_keys hown Tryz.underlying9 hag hp)
  have hseq : SeqGives Fence.wide 2 Tryz.prog 157 #[.pointer (some ⟨w.heap.size, 0, none⟩)] encStr (fun ss => ss.Perm (strKeys D0)) (Maps.size D0) (w.alloc (.cells #[.map (some b)] 111)) :=
    AnyZ.keys_gives (ρ := Tryz.keysA_ren) { Tryz.keysA with } Fence.wide _ trivial rfl (by omega) w.heap.size b m.length D0 _ (by simp) (by simp) (by
      obtain ⟨es, clock, hb, Ft, hs, hD⟩ := hown
      exact ⟨es, clock, (Below.heap_alloc _ _ b hbl).trans hb, Ft, hs, hD⟩)
  have cK : ∀ mb W, CallsIn Fence.wide 5 Tryz.prog 100 #[.map mb] W fun e w' => e = .returned (.func (.func 157) #[] #[.pointer (some ⟨W.heap.size, 0, none⟩)]) ∧ w' = W.alloc (.cells #[.map mb] 111) := fun mb W => AnyZ.keys_in Tryz.keysA Fence.wide 5 trivial rfl mb W
  have cS := AnyZ.sorted_in Tryz.sortedA Fence.wide 5 trivial trivial trivial trivial rfl (by omega) (sorts_in _) (enters_of Tryz.func156 (by kernel_rfl) rfl) 157 #[.pointer (some ⟨w.heap.size, 0, none⟩)] trivial (enters_of Tryz.func157 (by kernel_rfl) rfl) _ _ hmax hbytes _ hseq
  change CallsIn _ _ Tryz.prog 99 _ _ _ at cS
  have hfK : Fence.wide.fn 100 := trivial
  have hfS : Fence.wide.fn 99 := trivial
  clear h hown hag hsz hfew hmax hbytes hseq
  refine callsIn_of_wp Tryz.func54 rfl trivial ?_ rfl
  simp only [Tryz.ntmps54, List.size_toArray, List.length_cons, List.length_nil, Nat.reduceAdd, Nat.reduceSub, Array.replicate_succ, Array.replicate_zero, List.push_toArray, List.append_toArray, List.nil_append, List.cons_append]
  gi_wp2_with (first
    | (gi_at_call 100; refine (cK _ _).mono ?_; rintro e w' ⟨rfl, rfl⟩)
    | (gi_at_call 99; refine cS.mono ?_; rintro e w' ⟨v, ss, rfl, hS, hrow, hnil, hb⟩))
  go_ret
  have e := hfin.out ss hS
  rw [e] at hrow
  have el : ss.length = (keysOf m).length := by rw [← e, List.length_mergeSort]
  rw [el] at hrow
  refine ⟨v, rfl, ownsRow_base_a hrow (by simp), ?_, ((Below.refl _ w).alloc (Nat.le_refl _) _).trans (hb.mono (by simp))⟩
  rw [hnil]
  constructor
  · intro h0; rw [h0] at el; exact List.eq_nil_of_length_eq_zero el.symm
  · intro h0; rw [h0] at el; exact List.eq_nil_of_length_eq_zero el

end Go.Proofs.YtcgkomafaepjnaaGreatDoor
namespace Go.Proofs.YtcgkomafaepjnaaGreatDoor
open Go.RowKit Go.Shelf Go.Sort

/-- Short texts. -/
abbrev Short := { x : Tx // x.length ≤ 1000 }
instance : Inhabited Short := ⟨⟨[], by decide⟩⟩
def encS (x : Short) : Value := .string ⟨x.1.toArray⟩
theorem encS_one (x : Short) : (encS x).oneCell' = true := rfl
theorem shorts_of : ∀ (ks : List Tx), (∀ k ∈ ks, k.length = 16) → ∃ ds : List Short, ds.map Subtype.val = ks
  | [], _ => ⟨[], rfl⟩
  | k :: ks, h => by
    obtain ⟨ds, e⟩ := shorts_of ks fun x hx => h x (by simp [hx])
    exact ⟨⟨k, by rw [h k (by simp)]; decide⟩ :: ds, by rw [List.map_cons, e]⟩
theorem encS_map (ds : List Short) : (ds.map Subtype.val).map encStr = ds.map encS := by
  rw [List.map_map]; rfl

/-- What a closure over a beginning and a depth answers. -/
def Tells (g B1 B2 : Nat) (beg : Tx) (z : Int) : Prop :=
  ∀ (x : Short) (W : World), W.cell? ⟨B1, 0, none⟩ = some (.string ⟨beg.toArray⟩) → W.cell? ⟨B2, 0, none⟩ = some (.int .i64 z) →
    FnGives Tryz.prog g #[.pointer (some ⟨B1, 0, none⟩), .pointer (some ⟨B2, 0, none⟩)] #[encS x] (.bool (!alikeTo x.1 beg (depthNat z))) W

set_option maxRecDepth 100000 in
theorem tells_node (B1 B2 : Nat) (beg : Tx) (z : Int) (hb : beg.length ≤ 1000) : Tells 91 B1 B2 beg z := by
  intro x W h1 h2
  show Calls Tryz.prog 91 #[.string ⟨x.1.toArray⟩, .pointer (some ⟨B1, 0, none⟩), .pointer (some ⟨B2, 0, none⟩)] W _
  have hx := x.2
  have hc := below_any ⟨x.1.toArray⟩ ⟨beg.toArray⟩ z W (by show x.1.toArray.size ≤ _; rw [List.size_toArray]; omega) (by show beg.toArray.size ≤ _; rw [List.size_toArray]; omega)
  simp only at hc
  generalize x.1 = t at hc ⊢
  generalize alikeTo t beg (depthNat z) = r at hc ⊢
  clear hx
  go_enter Tryz.func91, Tryz.ntmps91
  go_wp2_with fail
  refine hc.mono ?_
  rintro e w' ⟨rfl, rfl⟩
  go_wp2
  go_ret
  exact ⟨rfl, 0, rfl⟩

set_option maxRecDepth 100000 in
theorem tells_prove (B1 B2 : Nat) (beg : Tx) (z : Int) (hb : beg.length ≤ 1000) : Tells 58 B1 B2 beg z := by
  intro x W h1 h2
  show Calls Tryz.prog 58 #[.string ⟨x.1.toArray⟩, .pointer (some ⟨B1, 0, none⟩), .pointer (some ⟨B2, 0, none⟩)] W _
  have hx := x.2
  have hc := below_any ⟨x.1.toArray⟩ ⟨beg.toArray⟩ z W (by show x.1.toArray.size ≤ _; rw [List.size_toArray]; omega) (by show beg.toArray.size ≤ _; rw [List.size_toArray]; omega)
  simp only at hc
  generalize x.1 = t at hc ⊢
  generalize alikeTo t beg (depthNat z) = r at hc ⊢
  clear hx
  go_enter Tryz.func58, Tryz.ntmps58
  go_wp2_with fail
  refine hc.mono ?_
  rintro e w' ⟨rfl, rfl⟩
  go_wp2
  go_ret
  exact ⟨rfl, 0, rfl⟩

set_option maxRecDepth 100000 in
theorem delete_nil (c : Nat) (fv : Value) (w : World) :
    Calls Tryz.prog 56 #[.slice none 0 c, fv] w fun e w' => e = .returned (.slice none 0 c) ∧ w' = w := by
  have h := AnyE.slices_IndexFunc_empty { Tryz.laysSlH10_f56 with } none c fv w
  change Calls Tryz.prog 101 _ _ _ at h
  go_enter Tryz.func56, Tryz.ntmps56
  go_wp2_with fail
  refine h.mono ?_
  rintro e w' ⟨rfl, rfl⟩
  go_wp2
  go_ret
  exact ⟨rfl, rfl⟩

set_option maxRecDepth 100000 in
set_option maxHeartbeats 1000000 in
/-- The keys with a beginning. -/
theorem delete_any (g B1 B2 : Nat) (beg : Tx) (z : Int) (hg : Tells g B1 B2 beg z) (eg : ∀ args w, (callFunc g args).run Tryz.prog w = .ok (.enter g args) w)
    (R : Nat) (v : Value) (ks : List Tx) (w : World) (hown : w.ownsRow R 9 1 v ks.length (ks.map encStr)) (hk16 : ∀ k ∈ ks, k.length = 16) (hfew : ks.length ≤ 100000)
    (h1 : w.cell? ⟨B1, 0, none⟩ = some (.string ⟨beg.toArray⟩)) (h2 : w.cell? ⟨B2, 0, none⟩ = some (.int .i64 z)) (hne : ∀ k, v.ownBlock = some k → B1 ≠ k ∧ B2 ≠ k) :
    Calls Tryz.prog 56 #[v, .func (.func g) #[] #[.pointer (some ⟨B1, 0, none⟩), .pointer (some ⟨B2, 0, none⟩)]] w fun e w' => ∃ a c, e = .returned (.slice a (under ks beg (depthNat z)).length c) ∧ Keyrow w' a c (under ks beg (depthNat z)) ∧ Touch (fun k => v.ownBlock = some k) w w' ∧ ∀ g o, a = some ⟨g, o, none⟩ → v.ownBlock = some g := by
  rcases hown.2 with ⟨rfl, h0⟩ | ⟨q, cap, cur, rfl, _, hq, hnc, hcm, hcur, htake⟩
  · obtain rfl := List.eq_nil_of_length_eq_zero h0
    refine (delete_nil 0 _ w).mono ?_
    rintro e w' ⟨rfl, rfl⟩
    exact ⟨none, 0, rfl, ⟨by simp [under], by simp [under], by intro k hk; simp [under] at hk⟩, Touch.refl _ _, fun _ _ e => by cases e⟩
  · obtain ⟨ds, rfl⟩ := shorts_of ks hk16
    obtain ⟨hn1, hn2⟩ := hne q rfl
    have hl1 := World.block_lt_of_cell? w _ h1
    have hl2 := World.block_lt_of_cell? w _ h2
    rw [List.length_map] at hown hnc hfew ⊢
    rw [encS_map] at hown
    have hcl := hown.cells (g := q) rfl
    have hH : Holds encS w q 0 ds.toArray := by
      intro j hj
      have hj : j < ds.length := by simpa using hj
      constructor
      · have := hcl j (encS ds[j]) (by simp [hj])
        have hadd : (⟨q, 0, none⟩ : Addr).add j = ⟨q, 0 + j, none⟩ := by unfold Addr.add; split <;> simp_all
        rw [hadd] at this
        rw [this]
        simp [hj]
      · exact frozen_of_row _ _ _ _ _ hq
    have hp : PredAt Tryz.prog g #[.pointer (some ⟨B1, 0, none⟩), .pointer (some ⟨B2, 0, none⟩)] encS (fun x => !alikeTo x.1 beg (depthNat z)) w := fun W x hb =>
      hg x W ((hb.cell (p := ⟨B1, 0, none⟩) hl1).trans h1) ((hb.cell (p := ⟨B2, 0, none⟩) hl2).trans h2)
    have hpo : PredOver Tryz.prog g #[.pointer (some ⟨B1, 0, none⟩), .pointer (some ⟨B2, 0, none⟩)] encS (fun x => !alikeTo x.1 beg (depthNat z)) q 0 ds.toArray.size w := fun n os dk x _ => by
      refine hg x _ ?_ ?_
      · unfold sortWorld
        rw [cell?_grow _ _ _ (by show B1 < (putRow _ _ _ _ _).heap.size; rw [size_putRow]; exact hl1), cell?_putRow_other _ _ q 0 _ _ (Or.inl hn1)]
        exact h1
      · unfold sortWorld
        rw [cell?_grow _ _ _ (by show B2 < (putRow _ _ _ _ _).heap.size; rw [size_putRow]; exact hl2), cell?_putRow_other _ _ q 0 _ _ (Or.inl hn2)]
        exact h2
    have h := Tryz.slices_DeleteFunc encS encS_one (fun x => !alikeTo x.1 beg (depthNat z)) g #[.pointer (some ⟨B1, 0, none⟩), .pointer (some ⟨B2, 0, none⟩)] eg ⟨[], by decide⟩ (fun w => Tryz.zeroValue9 w) q 0 cap ds.toArray w hp hpo hH (by simp; omega) (by simpa using hnc)
    rw [show ds.toArray.size = ds.length from List.size_toArray] at h
    refine h.mono ?_
    rintro e w' ⟨rfl, n, rfl⟩
    have er : under (ds.map Subtype.val) beg (depthNat z) = (ds.filter fun x => !!alikeTo x.1 beg (depthNat z)).map Subtype.val := by
      unfold under
      rw [List.filter_map]
      simp only [Bool.not_not]
      rfl
    rw [er]
    have hle : (ds.filter fun x => !!alikeTo x.1 beg (depthNat z)).length ≤ ds.length := List.length_filter_le _ _
    have elist : ds.toArray.toList = ds := rfl
    simp only at *
    generalize (ds.filter fun x => !!alikeTo x.1 beg (depthNat z)) = r at hle ⊢
    refine ⟨some ⟨q, 0, none⟩, cap, by rw [List.length_map], ⟨by rw [List.length_map]; omega, by rw [List.length_map]; omega, fun k hk => ?_⟩, ⟨rfl, rfl, rfl, by rw [size_putRow]; exact Nat.le_refl _, fun k hk hs => ?_⟩, fun _ _ e => by injection e with e; injection e with e; rw [← e]; rfl⟩
    · rw [List.length_map] at hk
      refine ⟨q, 0, rfl, by rw [size_putRow]; exact (Array.getElem?_eq_some_iff.1 hq).1, ?_⟩
      have := cell?_putRow encS (Sort.ahead w n) q 0 ds.toArray ((r ++ List.replicate (ds.length - r.length) (⟨[], by decide⟩ : Short)).toArray) (holds_ahead _ _ _ _ _ _ hH) (by simp; omega) k (by simp; omega)
      rw [this]
      have e2 : (r ++ List.replicate (ds.length - r.length) (⟨[], by decide⟩ : Short)).toArray[k]! = r[k] := by
        rw [getElem!_pos _ _ (by simp; omega)]
        simp [List.getElem_append_left hk]
      rw [e2]
      unfold encS
      rw [List.getD_eq_getElem?_getD, List.getElem?_map, List.getElem?_eq_getElem hk]; rfl
    · have hkq : k ≠ q := fun e => hs (by rw [e]; rfl)
      show (putRow encS (Sort.ahead w n) q 0 _).heap[k]? = _
      unfold putRow mapBlock
      rw [Array.getElem?_modify, if_neg (fun e => hkq e.symm)]; rfl

end Go.Proofs.YtcgkomafaepjnaaGreatDoor
namespace Go.Proofs.YtcgkomafaepjnaaGreatDoor
open Go.RowKit

theorem depthNat_in (d : Nat) (hd : d ≤ 128) : depthNat (d : Int) = d := by unfold depthNat; omega

set_option maxRecDepth 100000 in
set_option maxHeartbeats 2000000 in
theorem tat_any (p b : Nat) (m : Puts) (beg : Tx) (d : Nat) (w : World) (h : TreeAt w p b m) (hK : Kon w) (hb : beg.length ≤ 1000) (hd : d ≤ 128) :
    Calls Tryz.prog 44 #[.pointer (some ⟨p, 0, none⟩), .string ⟨beg.toArray⟩, .int .i64 (d : Int)] w fun e w' => e = .returned (.string ⟨(hs.at (valOf m) (keysOf m) beg d).toArray⟩) ∧ Below w.heap.size w w' := by
  have hlt := h.lt
  have hks := keys_keysOf (m := m) fun q hq => (h.small q hq).1
  have hkl := length_keysOf m
  have hfew := h.few
  obtain ⟨W0, hW0⟩ : ∃ W0, W0 = (w.alloc (.cells #[.string ⟨beg.toArray⟩] 9)).alloc (.cells #[.int .i64 (d : Int)] 3) := ⟨_, rfl⟩
  have hB0 : Below w.heap.size w W0 := by rw [hW0]; exact ((Below.refl _ _).alloc (Nat.le_refl _) _).alloc (by simp) _
  have hs0 : W0.heap.size = w.heap.size + 2 := by rw [hW0]; simp
  have c1 : W0.heap[w.heap.size]? = some (.cells #[.string ⟨beg.toArray⟩] 9 (0, 0)) := by
    rw [hW0, Below.heap_alloc _ _ _ (by simp)]; exact heap_alloc_new _ _
  have c2 : W0.heap[w.heap.size + 1]? = some (.cells #[.int .i64 (d : Int)] 3 (0, 0)) := by rw [hW0]; exact heap_alloc2_new _ _ _
  have hkeys := Lib.hid (tkeys_any p b m W0 (h.old hB0))
  have hdel := Lib.hid (fun (v : Value) (W : World) (ho : W.ownsRow W0.heap.size 9 1 v (keysOf m).length ((keysOf m).map encStr)) (hB : Below W0.heap.size W0 W) =>
    delete_any 91 w.heap.size (w.heap.size + 1) beg (d : Int) (tells_node _ _ beg _ hb) (enters_of Tryz.func91 (by kernel_rfl) rfl) W0.heap.size v (keysOf m) W ho hks.len (by omega)
      (by rw [cell_of_row _ _ 0 _ _ _ ((hB.block _ (by omega)).trans c1)]; rfl) (by rw [cell_of_row _ _ 0 _ _ _ ((hB.block _ (by omega)).trans c2)]; rfl) (fun k hk => by have := (ho.lt k hk).1; omega))
  rw [depthNat_in d hd] at hdel
  have hnode := Lib.hid (fun (W : World) (a : Option Addr) (c : Nat) (ht : TreeAt W p b m) (hK : Kon W) (hr : Keyrow W a c (under (keysOf m) beg d)) =>
    tnode_any p b m (128 - d) (d : Int) a c (under (keysOf m) beg d).length (under (keysOf m) beg d) W (by omega) (by omega) rfl (by rw [show 128 - (128 - d) = d from by omega]; exact under_row hks beg d) ht hK hr)
  unfold Hs.at
  generalize hs.nd (valOf m) (128 - d) (under (keysOf m) beg d) = N at hnode ⊢
  generalize under (keysOf m) beg d = U at hdel hnode
  have HT := Lib.hid h
  have HK := Lib.hid hK
  have HB0 := Lib.hid hB0
  have hm0 : max (d : Int) 0 = d := by omega
  have hm1 : min (d : Int) 128 = d := by omega
  have c2' := Lib.hid c2
  clear h hK hks hkl hfew c1 c2 hB0
  go_enter Tryz.func44, Tryz.ntmps44
  go_wp2_with fail
  rw [← hW0]
  refine hkeys.out.mono ?_
  rintro e w1 ⟨v, rfl, ho, _, hB1⟩
  clear hkeys
  have hd1 := hdel.out v w1 ho hB1
  have hol := Lib.hid (fun k hk => (ho.lt k hk).1)
  clear hdel ho
  go_wp2_with fail
  refine hd1.mono ?_
  rintro e w2 ⟨a, c, rfl, hr, hT, _⟩
  clear hd1
  have hB2 : Below W0.heap.size W0 w2 := hB1.trans (hT.below (B := W0.heap.size) (fun i hi => hol.out i hi) hB1.size)
  have hBw : Below w.heap.size w w2 := HB0.out.trans (hB2.mono HB0.out.size)
  have hcz : w2.cell? ⟨w.heap.size + 1, 0, none⟩ = some (.int .i64 (d : Int)) := by
    rw [cell_of_row _ _ 0 _ _ _ ((hB2.block _ (by omega)).trans c2'.out)]; rfl
  have hn := hnode.out w2 a c (HT.out.old hBw) (HK.out.old hBw) hr
  clear hnode hr hT hB1
  generalize U.length = ul at hn ⊢
  go_wp2_with fail
  refine hn.mono ?_
  rintro e w3 ⟨rfl, hB3⟩
  go_wp2
  go_ret
  exact ⟨rfl, hBw.trans (hB3.mono hBw.size)⟩

theorem at_root (val : Tx → Tx) (ks : List Tx) (p : Tx) : hs.at val ks p 0 = hs.at val ks [] 0 := at_congr hs val ks rfl
set_option maxRecDepth 100000 in
theorem troot_any (p b : Nat) (m : Puts) (w : World) (h : TreeAt w p b m) (hK : Kon w) :
    Calls Tryz.prog 17 #[.pointer (some ⟨p, 0, none⟩)] w fun e w' => e = .returned (.string ⟨(hs.at (valOf m) (keysOf m) [] 0).toArray⟩) ∧ Below w.heap.size w w' := by
  have hc := tat_any p b m [] 0 w h hK (by decide) (by decide)
  clear h hK
  generalize hs.at (valOf m) (keysOf m) [] 0 = N at hc ⊢
  go_enter Tryz.func17, Tryz.ntmps17
  go_wp2_with fail
  refine hc.mono ?_
  rintro e w' ⟨rfl, hB⟩
  go_wp2
  go_ret
  exact ⟨rfl, hB⟩

set_option maxRecDepth 100000 in
theorem tcopy_any (p b : Nat) (m : Puts) (w : World) (h : TreeAt w p b m) :
    Calls Tryz.prog 10 #[.pointer (some ⟨p, 0, none⟩)] w fun e w' => ∃ p' b', e = .returned (.pointer (some ⟨p', 0, none⟩)) ∧ TreeAt w' p' b' m ∧ w.heap.size ≤ p' ∧ w.heap.size ≤ b' ∧ Below w.heap.size w w' := by
  obtain ⟨D, h1, h2⟩ := h.map
  have hcell := h.cell
  have hc := AnyW.maps_Clone_owns Tryz.cloneA 9 (plainElem Tryz.prog 9) b m.length D w h1
  change Calls Tryz.prog 43 _ _ _ at hc
  have HS := Lib.hid (And.intro h.small h.few)
  clear h h1
  go_enter Tryz.func10, Tryz.ntmps10
  go_wp2_with fail
  refine hc.mono ?_
  rintro e w1 ⟨rfl, ho, _, hB⟩
  clear hc
  go_wp2
  go_ret
  refine ⟨_, _, rfl, ⟨heap_alloc_new _ _, ⟨D, ho.alloc _, h2⟩, HS.out.1, HS.out.2⟩, hB.size, Nat.le_refl _, hB.alloc hB.size _⟩

end Go.Proofs.YtcgkomafaepjnaaGreatDoor
namespace Go.Proofs.YtcgkomafaepjnaaGreatDoor
open Go.RowKit

set_option maxRecDepth 100000 in
theorem bcount_any (d : Nat) (w : World) (hd : d ≤ 3) :
    Calls Tryz.prog 12 #[.int .i64 (d : Int)] w fun e w' => e = .returned (.int .i64 ((2 ^ d : Nat) : Int)) ∧ w' = w := by
  match d, hd with
  | 0, _ =>
    show Calls _ _ #[.int .i64 0] w _
    go_enter Tryz.func12, Tryz.ntmps12
    go_wp2
    go_ret
    exact ⟨rfl, rfl⟩
  | 1, _ =>
    show Calls _ _ #[.int .i64 1] w _
    go_enter Tryz.func12, Tryz.ntmps12
    go_wp2
    go_ret
    exact ⟨rfl, rfl⟩
  | 2, _ =>
    show Calls _ _ #[.int .i64 2] w _
    go_enter Tryz.func12, Tryz.ntmps12
    go_wp2
    go_ret
    exact ⟨rfl, rfl⟩
  | 3, _ =>
    show Calls _ _ #[.int .i64 3] w _
    go_enter Tryz.func12, Tryz.ntmps12
    go_wp2
    go_ret
    exact ⟨rfl, rfl⟩

set_option maxRecDepth 100000 in
set_option maxHeartbeats 1000000 in
theorem bof_any (s : ByteArray) (d : Nat) (w : World) (hs : s.size = 16) (hd : d ≤ 3) :
    Calls Tryz.prog 39 #[.string s, .int .i64 (d : Int)] w fun e w' => e = .returned (.tuple #[.int .i64 (bandTo s.data.toList d), .int .i64 0]) ∧ w' = w := by
  have h1 := bcount_any d w hd
  have hp : 0 < 2 ^ d := Nat.two_pow_pos d
  generalize 2 ^ d = n at h1 hp
  have h0 : ((n : Int) == 0) = false := by simp; omega
  have hk' : ((s.size : Int) != 16) = false := by rw [hs]; rfl
  have h2 := band_any s (d : Int) w (by omega)
  rw [show bandI s.data.toList (d : Int) = bandTo s.data.toList d from by unfold bandI; rw [if_pos (by omega)]; rfl] at h2
  go_enter Tryz.func39, Tryz.ntmps39
  go_wp2_with fail
  refine h1.mono ?_
  rintro e w' ⟨rfl, rfl⟩
  go_wp2_with fail
  refine h2.mono ?_
  rintro e w' ⟨rfl, rfl⟩
  go_wp2
  go_ret2
  exact ⟨rfl, rfl⟩

set_option maxRecDepth 100000 in
theorem right_any (s : ByteArray) (d : Nat) (w : World) (hs : s.size = 16) (hd : d ≤ 128) :
    Calls Tryz.prog 53 #[.string s, .int .i64 (d : Int)] w fun e w' => e = .returned (.bool true) ∧ w' = w := by
  have hk' : ((s.size : Int) == 16) = true := by rw [hs]; rfl
  go_enter Tryz.func53, Tryz.ntmps53
  go_wp2
  go_ret
  exact ⟨by simp; omega, rfl⟩

end Go.Proofs.YtcgkomafaepjnaaGreatDoor
