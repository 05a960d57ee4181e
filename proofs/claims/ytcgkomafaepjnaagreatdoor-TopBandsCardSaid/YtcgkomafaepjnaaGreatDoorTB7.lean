/- Package proof: turned, node. Conditions: keys of sixteen bytes, depths that may be. | Package proof: the keys alike to a depth, as Prove gathers them. Conditions: short texts. | Package wots: public keys, signatures, and what a signature recovers. Conditions: leaves below 256, seeds of at most a thousand bytes; the round's constants hold what their initialiser lays. | Package wots: a signature of a digest recovers the public key. Conditions: leaves below 256, seeds of at most a thousand bytes; the round's constants hold what their initialiser lays. | Package merkle: nodes; the root, the path and the climb where there is one leaf. Conditions: texts of at most a thousand bytes; the round's constants hold what their initialiser lays. | Package xmss: keys of one leaf: their making, signing, verifying. Conditions: seeds of at most a thousand bytes; the round's constants hold what their initialiser lays. -/
import Derived.Test.YtcgkomafaepjnaaGreatDoorTB6
import Derived.Laws.IdiomStrings
import Derived.StillTailTactics
import Derived.Deep.RegionHeld3
import Derived.Deep.AppendLies
import Derived.Deep.RegionLaw
namespace Go.Proofs.YtcgkomafaepjnaaGreatDoor
open Go.RowKit

/-- '[]byte(s)': a new block that holds the bytes, and room behind. -/
theorem bytes_new (x : Tx) (w : World) :
    ∃ W c r, (convert 9 58 (.string ⟨x.toArray⟩)).run Tryz.prog w = .ok (.slice (some ⟨w.heap.size, 0, none⟩) x.length c) W ∧ Below w.heap.size w W ∧ x.length ≤ c ∧
      W.heap[w.heap.size]? = some (.cells ((bytesV x).toArray ++ r) 5 (((bytesV x).toArray ++ r).size, ((bytesV x).toArray ++ r).size + 1)) := by
  have h := run_bytes_of_string (P := Tryz.prog) w 9 58 5 ⟨x.toArray⟩ Tryz.underlying9 Tryz.underlying58 Tryz.underlying5
  have hge := grownCap_ge w (ByteArray.mk x.toArray).size 0 5
  have e : bytesRow ⟨x.toArray⟩ (grownCap w (ByteArray.mk x.toArray).size 0 5) = (bytesV x).toArray ++ Array.replicate (grownCap w (ByteArray.mk x.toArray).size 0 5 - (ByteArray.mk x.toArray).size) (.int .u8 0) := by
    unfold bytesRow bytesV; simp
  rw [e] at h
  exact ⟨_, _, _, h, ((Below.refl _ _).drew).alloc (Nat.le_refl _) _, hge, heap_alloc_new w.drew _⟩

theorem turned_xor (x : Tx) (d y : Nat) (hy : (x.getD (d / 8) 0).toNat = y) :
    (turn x d) = x.set (d / 8) (UInt8.ofNat (y ^^^ 2 ^ (7 - d % 8))) := by
  unfold turn
  congr 1
  apply UInt8.toNat_inj.1
  have h2 : 2 ^ (7 - d % 8) < 256 := Nat.lt_of_le_of_lt (Nat.pow_le_pow_right (by decide) (show 7 - d % 8 ≤ 7 by omega)) (by decide)
  have h3 : y < 256 := by rw [← hy]; exact UInt8.toNat_lt _
  rw [UInt8.toNat_xor, hy, UInt8.toNat_ofNat', UInt8.toNat_ofNat', Nat.mod_eq_of_lt h2, Nat.mod_eq_of_lt (Nat.xor_lt_two_pow (n := 8) h3 h2)]

set_option maxRecDepth 100000 in
set_option maxHeartbeats 1000000 in
theorem turned_any (x : Tx) (d : Nat) (w : World) (hx : x.length = 16) (hd : d < 128) :
    Calls Tryz.prog 60 #[.string ⟨x.toArray⟩, .int .i64 (d : Int)] w fun e w' => e = .returned (.string ⟨(turn x d).toArray⟩) ∧ Below w.heap.size w w' := by
  obtain ⟨W, c, r, hconv, hB, hc, hrow⟩ := bytes_new x w
  rw [hx] at hconv hc
  have hcl : ∀ j, j < 16 → W.cell? ⟨w.heap.size, j, none⟩ = some (.int .u8 ((x.getD j 0).toNat : Int)) := by
    intro j hj
    rw [cell_of_row _ _ j _ _ _ hrow]
    rw [Array.getElem?_append_left (by simp [bytesV, hx]; omega)]
    simp [bytesV, hx, hj]
  have hfr : ∀ j, j < 16 → W.frozen? ⟨w.heap.size, j, none⟩ = false := by
    intro j hj
    unfold World.frozen?
    simp [hrow, bytesV, hx]
    omega
  go_enter Tryz.func60, Tryz.ntmps60
  go_wp2_with fail
  have hq : (d : Int) / 8 = ((d / 8 : Nat) : Int) := by omega
  have hr : (d : Int) % 8 = ((d % 8 : Nat) : Int) := by omega
  have hq16 : d / 8 < 16 := by omega
  have hr8 : d % 8 < 8 := by omega
  have hc0 := hcl (d / 8) hq16
  have hf0 := hfr (d / 8) hq16
  have ht := fun y hy => turned_xor x d y hy
  generalize hy : (x.getD (d / 8) 0).toNat = y at hc0
  have ht := Lib.hid (ht y hy)
  have hy256 : y < 256 := by rw [← hy]; exact UInt8.toNat_lt _
  clear hy
  generalize d / 8 = q at hq hc0 hf0 hq16 ht
  generalize d % 8 = r8 at hr hr8 ht
  have h2 : 2 ^ (7 - r8) < 256 := Nat.lt_of_le_of_lt (Nat.pow_le_pow_right (by decide) (show 7 - r8 ≤ 7 by omega)) (by decide)
  have h2' : ((2 : Int) ^ (7 - r8)) % 256 = ((2 ^ (7 - r8) : Nat) : Int) := by
    have : ((2 : Int) ^ (7 - r8)) = ((2 ^ (7 - r8) : Nat) : Int) := by simp
    rw [this]
    exact Int.emod_eq_of_lt (Int.natCast_nonneg _) (by exact_mod_cast h2)
  obtain ⟨Y, hY, hYe⟩ : ∃ Y : Int, bits BinOp.xor IntKind.u8 (y : Int) ((2 : Int) ^ (7 - r8) % 256) = Y ∧ Y = ((y ^^^ 2 ^ (7 - r8) : Nat) : Int) := ⟨_, rfl, by rw [h2']; exact u8_xor_nat _ _ hy256 h2⟩
  have hYl : y ^^^ 2 ^ (7 - r8) < 256 := Nat.xor_lt_two_pow (n := 8) hy256 h2
  have hback : Hid (∀ V : World, (∀ j, j < 16 → V.cell? ⟨w.heap.size, j, none⟩ = some (.int .u8 ((x.getD j 0).toNat : Int))) → (convert 58 9 (.slice (some ⟨w.heap.size, 0, none⟩) 16 c)).run Tryz.prog (V.setCell ⟨w.heap.size, q, none⟩ (.int .u8 Y)) = .ok (.string ⟨(turn x d).toArray⟩) (V.setCell ⟨w.heap.size, q, none⟩ (.int .u8 Y))) := Lib.hid (by
    intro V hV
    have hl := turn_length x d
    have := run_convert_bytes_back (P := Tryz.prog) (V.setCell ⟨w.heap.size, q, none⟩ (.int .u8 Y)) 58 9 5 ⟨w.heap.size, 0, none⟩ c (turn x d) Tryz.underlying58 Tryz.underlying5 Tryz.underlying9 (by
      intro j hj
      have hj16 : j < 16 := by omega
      have hadd : (⟨w.heap.size, 0, none⟩ : Addr).add j = ⟨w.heap.size, j, none⟩ := by unfold Addr.add; split <;> simp_all
      rw [hadd]
      by_cases e : j = q
      · subst e
        rw [World.cell?_setCell_same _ _ _ (hV j hj16)]
        have e2 : (turn x d)[j] = UInt8.ofNat (y ^^^ 2 ^ (7 - r8)) := by
          have := ht.out
          simp only [this]
          simp
        rw [e2, hYe, UInt8.toNat_ofNat', Nat.mod_eq_of_lt hYl]
      · rw [World.cell?_setCell_other (a := ⟨w.heap.size, q, none⟩) (b := ⟨w.heap.size, j, none⟩) (h := by intro h; injection h with _ h; omega), hV j hj16]
        have e2 : (turn x d)[j] = x.getD j 0 := by
          have := ht.out
          simp only [this]
          rw [List.getElem_set_ne (by omega)]
          simp [show j < x.length from by omega]
        rw [e2])
    rw [hl, hx] at this
    exact this)
  have hcl' := Lib.hid hcl
  clear hcl hfr hYe ht hYl h2 h2' hrow
  have hsz := (hB.size)
  have htm : (d : Int).tmod 8 = (r8 : Int) := by rw [Int.tmod_eq_emod_of_nonneg (by omega)]; exact hr
  obtain ⟨t, ht7⟩ : ∃ t, 7 - r8 = t := ⟨_, rfl⟩
  have hw7 : IntKind.i64.wrap (7 - (r8 : Int)) = (t : Int) := by rw [IntKind.wrap_i64]; omega
  rw [ht7] at hY
  have hY' : bits BinOp.xor IntKind.u8 (y : Int) (IntKind.u8.wrap ((2 : Int) ^ t)) = Y := by rw [IntKind.wrap_u8]; exact hY
  have ht0 : (0 : Int) ≤ (t : Int) := by omega
  have ht8 : (t : Int) < 8 := by omega
  clear ht7
  have hq0 : (0 : Int) ≤ (q : Int) := by omega
  have hq1 : (q : Int) < 16 := by omega
  have hwq : IntKind.i64.wrap (q : Int) = q := by rw [IntKind.wrap_i64]; omega
  have hwr : IntKind.i64.wrap (r8 : Int) = r8 := by rw [IntKind.wrap_i64]; omega
  go_still_tail 10, (by kernel_rfl)
  change wpList _ _ _ _ _ W.drew
  have hc0 : W.drew.cell? ⟨w.heap.size, q, none⟩ = _ := hc0
  have hf0 : W.drew.frozen? ⟨w.heap.size, q, none⟩ = _ := hf0
  have hcl' : Hid (∀ j, j < 16 → W.drew.cell? ⟨w.heap.size, j, none⟩ = some (.int .u8 ((x.getD j 0).toNat : Int))) := hcl'
  have hB' := Lib.hid (hB.trans (Below.refl w.heap.size W).drew)
  clear hB
  generalize W.drew = V at hc0 hf0 hcl' hB' ⊢
  have hbk := hback.out V hcl'.out
  clear hback hcl'
  go_wp2
  go_ret
  exact ⟨rfl, hB'.out.setCell (p := ⟨w.heap.size, q, none⟩) (Nat.le_refl _) _⟩

end Go.Proofs.YtcgkomafaepjnaaGreatDoor
namespace Go.Proofs.YtcgkomafaepjnaaGreatDoor
open Go.RowKit

theorem clone_keys (a : Option Addr) (c : Nat) (ks : List Tx) (w : World) (hr : Keyrow w a c ks) :
    Calls Tryz.prog 57 #[.slice a ks.length c] w fun e w' => ∃ v, e = .returned v ∧ w'.ownsRow w.heap.size 9 1 v ks.length (ks.map encStr) ∧ Below w.heap.size w w' := by
  by_cases h0 : ks = []
  · subst h0
    cases a with
    | none =>
      refine (Tryz.slices_Clone_string_nil 0 c w).mono ?_
      rintro e w' ⟨rfl, rfl⟩
      exact ⟨_, rfl, World.ownsRow_nil _ _ _ _, Below.refl _ _⟩
    | some ad =>
      refine (Tryz.slices_Clone_string_zero ad c w).mono ?_
      rintro e w' ⟨v, rfl, ho, _, hB⟩
      exact ⟨v, rfl, ho, hB⟩
  · have hl : 0 < ks.length := List.length_pos_iff.2 h0
    obtain ⟨g, o, rfl, _, _⟩ := hr.cell 0 hl
    have hfew := hr.few
    refine (Tryz.slices_Clone_string g o ks.length c (ks.map fun k => ⟨k.toArray⟩) w (by simp) (by omega) (by
      intro j hj
      rw [List.length_map] at hj
      obtain ⟨g', o', e, _, hc⟩ := hr.cell j hj
      injection e with e
      injection e with e1 e2
      subst e1 e2
      rw [hc]
      congr 2
      rw [List.getD_eq_getElem?_getD, List.getElem?_eq_getElem hj, List.getD_eq_getElem?_getD, List.getElem?_map, List.getElem?_eq_getElem hj]; rfl)).mono ?_
    rintro e w' ⟨v, rfl, ho, _, hB⟩
    refine ⟨v, rfl, ?_, hB⟩
    have e2 : (((ks.map fun k => (⟨k.toArray⟩ : ByteArray)).take ks.length).map Value.string) = ks.map encStr := by
      rw [List.take_of_length_le (by simp), List.map_map]; rfl
    rw [e2] at ho
    exact ho

set_option maxRecDepth 100000 in
set_option maxHeartbeats 2000000 in
theorem pin_any (Bk Bq c : Nat) (a : Option Addr) (ks : List Tx) (key : Tx) (d : Nat) (w : World) (hk : w.cell? ⟨Bk, 0, none⟩ = some (.slice a ks.length c)) (hr : Keyrow w a c ks) (hq : w.cell? ⟨Bq, 0, none⟩ = some (.string ⟨key.toArray⟩)) (h16 : ∀ k ∈ ks, k.length = 16) (hkey : key.length ≤ 1000) (hd : d ≤ 128) :
    Calls Tryz.prog 55 #[.int .i64 (d : Int), .pointer (some ⟨Bk, 0, none⟩), .pointer (some ⟨Bq, 0, none⟩)] w fun e w' => ∃ a' c', e = .returned (.slice a' (under ks key d).length c') ∧ Keyrow w' a' c' (under ks key d) ∧ Below w.heap.size w w' ∧ ∀ g o, a' = some ⟨g, o, none⟩ → w.heap.size ≤ g := by
  have hlk := World.block_lt_of_cell? w _ hk
  have hlq := World.block_lt_of_cell? w _ hq
  have hfew := hr.few
  obtain ⟨W0, hW0⟩ : ∃ W0, W0 = w.alloc (.cells #[.int .i64 (d : Int)] 3) := ⟨_, rfl⟩
  have hB0 : Below w.heap.size w W0 := by rw [hW0]; exact (Below.refl _ _).alloc (Nat.le_refl _) _
  have hs0 : W0.heap.size = w.heap.size + 1 := by rw [hW0]; simp
  have c1 : W0.heap[w.heap.size]? = some (.cells #[.int .i64 (d : Int)] 3 (0, 0)) := by rw [hW0]; exact heap_alloc_new _ _
  have hk0 : ∀ o, (w.alloc o).cell? ⟨Bk, 0, none⟩ = some (.slice a ks.length c) := fun o => (((Below.refl w.heap.size w).alloc (Nat.le_refl _) o).cell (p := ⟨Bk, 0, none⟩) hlk).trans hk
  have hcl := Lib.hid (clone_keys a c ks W0 (hr.old hB0))
  have hdel := Lib.hid (fun (v : Value) (W : World) (ho : W.ownsRow W0.heap.size 9 1 v ks.length (ks.map encStr)) (hB : Below W0.heap.size W0 W) =>
    delete_any 58 Bq w.heap.size key (d : Int) (tells_prove _ _ key _ hkey) (enters_of Tryz.func58 (by kernel_rfl) rfl) W0.heap.size v ks W ho h16 hfew
      (((hB0.trans (hB.mono hB0.size)).cell (p := ⟨Bq, 0, none⟩) hlq).trans hq) (by rw [cell_of_row _ _ 0 _ _ _ ((hB.block _ (by omega)).trans c1)]; rfl) (fun k hk => by have := (ho.lt k hk).1; have h2 : Bq < w.heap.size := hlq; omega))
  rw [depthNat_in d hd] at hdel
  generalize under ks key d = U at hdel ⊢
  have HB0 := Lib.hid hB0
  clear hk hr hq h16 hkey hd hfew c1 hB0 hlk hlq
  generalize ks.length = kl at hk0 hcl hdel
  go_enter Tryz.func55, Tryz.ntmps55
  go_wp2_with fail
  rw [← hW0]
  refine hcl.out.mono ?_
  rintro e w1 ⟨v, rfl, ho, hB1⟩
  have hd1 := hdel.out v w1 ho hB1
  have hol := Lib.hid (fun k hk => (ho.lt k hk).1)
  clear hdel ho hcl
  go_wp2_with fail
  refine hd1.mono ?_
  rintro e w2 ⟨a2, c2, rfl, hr2, hT, hloc⟩
  have hB2 : Below W0.heap.size W0 w2 := hB1.trans (hT.below (B := W0.heap.size) (fun i hi => hol.out i hi) hB1.size)
  have Hr2 := Lib.hid (And.intro hr2 hloc)
  clear hd1 hr2 hT hloc hB1
  go_wp2
  go_ret
  exact ⟨a2, c2, rfl, Hr2.out.1, HB0.out.trans (hB2.mono HB0.out.size), fun g o e => by have := hol.out g (Hr2.out.2 g o e); omega⟩

end Go.Proofs.YtcgkomafaepjnaaGreatDoor
namespace Go.Proofs.YtcgkomafaepjnaaGreatDoor
open Go.RowKit

/-- Texts as values. -/
def txs (l : List (List UInt8)) : List Value := l.map fun x => .string ⟨x.toArray⟩
theorem txs_length (l : List (List UInt8)) : (txs l).length = l.length := List.length_map _
theorem txs_snoc (l : List (List UInt8)) (x : List UInt8) : txs (l ++ [x]) = txs l ++ [.string ⟨x.toArray⟩] := by simp [txs]
theorem txs_append (l m : List (List UInt8)) : txs (l ++ m) = txs l ++ txs m := by simp [txs]
theorem txs_strs (l : List (List UInt8)) : txs l = strs (l.map fun x => ⟨x.toArray⟩) := by simp [txs, strs]
theorem txs_one (l : List (List UInt8)) : ∀ u ∈ txs l, u.oneCell' = true := by intro u hu; obtain ⟨x, _, rfl⟩ := List.mem_map.1 hu; rfl
theorem mk_back (l : List (List UInt8)) : (l.map fun x => (⟨x.toArray⟩ : ByteArray)).map (·.data.toList) = l := by
  rw [List.map_map]; exact List.map_id'' (fun x => by simp) l
theorem txs_at (l : List (List UInt8)) (i : Nat) (h : i < l.length) : (txs l).getD i undef = .string ⟨(l.getD i []).toArray⟩ := by
  unfold txs
  rw [List.getD_eq_getElem?_getD, List.getElem?_map, List.getElem?_eq_getElem h, List.getD_eq_getElem?_getD, List.getElem?_eq_getElem h]; rfl
theorem Cells.tx_at {w : World} {a : Option Addr} {len cap : Nat} {l : List (List UInt8)} (h : Cells w (.slice a len cap) (txs l)) (k : Nat) (hk : k < len) :
    ∃ b off, a = some ⟨b, off, none⟩ ∧ b < w.heap.size ∧ w.cell? ⟨b, off + k, none⟩ = some (.string ⟨(l.getD k []).toArray⟩) := by
  obtain ⟨b, off, h1, h2, h3⟩ := h.at k hk
  have hl := h.len
  rw [txs_length] at hl
  exact ⟨b, off, h1, h2, by rw [h3, txs_at _ _ (by omega)]⟩
theorem tagIn_le (tag : Nat) (l : List (List UInt8)) (n : Nat) (hn : l.length ≤ n) (h : ∀ x ∈ l, x.length ≤ 1000) : (tagIn tag l).length ≤ 1 + 1004 * n := by
  rw [tagIn_len]
  have : ∀ l : List (List UInt8), (∀ x ∈ l, x.length ≤ 1000) → (l.map fun x => 4 + x.length).sum ≤ 1004 * l.length := by
    intro l
    induction l with
    | nil => intro _; simp
    | cons x l ih => intro h; have h1 := h x (by simp); have := ih fun y hy => h y (by simp [hy]); simp; omega
  have := this l h
  have : 1004 * l.length ≤ 1004 * n := Nat.mul_le_mul_left _ hn
  omega
/-- Tagged of a list of texts. -/
theorem tagged_txs (tag : Nat) (v : Value) (l : List (List UInt8)) (w : World) (htag : tag < 256) (hv : Cells w v (txs l)) (hN : l.length ≤ 300) (h : ∀ x ∈ l, x.length ≤ 1000) (hK : Kon w) :
    Calls Tryz.prog 9 #[.int .u8 tag, v] w fun e w' => e = .returned (.string ⟨(tagOf tag l).toArray⟩) ∧ Below w.heap.size w w' := by
  have := tagged_any tag v (l.map fun x => ⟨x.toArray⟩) w htag (by rw [← txs_strs]; exact hv) (by rw [List.length_map]; exact hN) (by rw [mk_back]; have := tagIn_le tag l 300 hN h; omega) hK
  rw [mk_back] at this
  exact this

theorem own_srcs {w : World} {base : Nat} {e : TypeId} {size : Nat} {a : Option Addr} {c n : Nat} {xs : List Value} (h : w.ownsRow base e size (.slice a n c) n xs) :
    (a = none → n = 0) ∧ ∀ ad, a = some ad → ∀ (j : Nat) u, xs[j]? = some u → w.cell? (ad.add j) = some u := by
  rcases h.2 with ⟨hv, h0⟩ | ⟨g, cap, cur, hv, _⟩
  · injection hv with e1 _ _
    subst e1
    exact ⟨fun _ => h0, fun _ h => by cases h⟩
  · injection hv with e1 _ _
    subst e1
    refine ⟨(fun h => by cases h), fun ad had j u hj => ?_⟩
    injection had with had
    subst had
    exact h.cells (g := g) rfl j u hj

def publicOf (o : List UInt8) (l : Nat) (ends : List (List UInt8)) : List UInt8 := tagOf 4 (o :: placeOf l 0 0 :: ends)
set_option maxHeartbeats 1000000 in
theorem public_any (o : ByteArray) (l : Nat) (v : Value) (ends : List (List UInt8)) (w : World) (B : Nat) (ho : o.size ≤ 1000) (hl : l < 256) (n : Nat) (hv : w.ownsRow B 9 1 v n (txs ends)) (hn : n = ends.length) (hN : n ≤ 200) (h : ∀ x ∈ ends, x.length ≤ 1000) (hK : Kon w) :
    Calls Tryz.prog 163 #[.string o, .int .i64 l, v] w fun e w' => e = .returned (.string ⟨(publicOf o.data.toList l ends).toArray⟩) ∧ Below w.heap.size w w' := by
  have HK := Lib.hid hK
  have HV := Lib.hid hv
  obtain ⟨a, c, rfl⟩ := own_slice hv
  have Hn := Lib.hid hn
  clear hK hv hn
  go_enter Tryz.func163, Tryz.ntmps163
  go_wp2_with fail
  refine (place_any l 0 0 _ hl (by decide) (by decide)).mono ?_
  rintro e w1 ⟨rfl, hb1⟩
  have s1 := hb1.size
  go_wp2_with (at_builtin; refine Hid.out ?_)
  unfold Hid
  have hown : (w1.alloc (.cells #[.string o, .string ⟨(placeOf l 0 0).toArray⟩] 9)).ownsRow w1.heap.size 9 1 (.slice (some ⟨w1.heap.size, 0, none⟩) 2 2) 2 (txs [o.data.toList, placeOf l 0 0]) :=
    ⟨rfl, .inr ⟨w1.heap.size, 2, _, rfl, Nat.le_refl _, heap_alloc_new _ _, Nat.le_refl _, by decide, rfl, by simp [txs]⟩⟩
  have hba : Below w.heap.size w (w1.alloc (.cells #[.string o, .string ⟨(placeOf l 0 0).toArray⟩] 9)) := hb1.alloc s1 _
  have hsrc := own_srcs ((Touch.of_below hba (fun _ => False)).own HV.out (fun _ _ h => h))
  refine wpList_appSrc rfl rfl 1 Tryz.underlying31 Tryz.underlying31 Tryz.infoStr rfl (by decide) hown rfl (news := txs ends) rfl (by rw [txs_length, Nat.mul_one, Hn.out]) hsrc.1 hsrc.2 (txs_one _) (by unfold maxLen; omega) (by omega) (by simp) ?_
  intro v2 w2 ho2 hg2 _
  have hb2 : Below w.heap.size w w2 := hba.grown hg2 hba.size (fun k hk => by have := (hown.lt k hk).1; omega)
  rw [← txs_append] at ho2
  have hT := Lib.hid (tagged_txs 4 v2 ([o.data.toList, placeOf l 0 0] ++ ends) w2 (by decide) (cells_of_own ho2) (by have := Hn.out; simp; omega) (by
    intro x hx
    rcases List.mem_append.1 hx with hx | hx
    · rcases List.mem_cons.1 hx with rfl | hx
      · simpa using ho
      · obtain rfl : x = placeOf l 0 0 := by simpa using hx
        simp [placeOf]
    · exact h x hx) (HK.out.old hb2))
  obtain ⟨a2, c2, rfl⟩ := own_slice ho2
  clear ho2 hown hsrc hg2
  go_wp2_with fail
  refine hT.out.mono ?_
  rintro e w3 ⟨rfl, hb3⟩
  go_wp2
  go_ret
  exact ⟨rfl, hb2.trans (hb3.mono hb2.size)⟩

/-- The chains' ends. -/
def pubEnds (seed : List UInt8) (l k : Nat) : List (List UInt8) := (List.range k).map fun i => wk (openOf seed) l i 0 15 (secretOf seed l i)
theorem pubEnds_succ (seed : List UInt8) (l k : Nat) : pubEnds seed l (k + 1) = pubEnds seed l k ++ [wk (openOf seed) l k 0 15 (secretOf seed l k)] := by simp [pubEnds, List.range_succ]
theorem secretOf_length (seed : List UInt8) (l k : Nat) : (secretOf seed l k).length = 16 := tagOf_length _ _
theorem openOf_length (seed : List UInt8) : (openOf seed).length = 16 := tagOf_length _ _
def pubKey (seed : List UInt8) (l : Nat) : List UInt8 := publicOf (openOf seed) l (pubEnds seed l 35)
theorem pubKey_length (seed : List UInt8) (l : Nat) : (pubKey seed l).length = 16 := tagOf_length _ _

set_option maxRecDepth 100000 in
set_option maxHeartbeats 1000000 in
theorem pubKey_any (seed : ByteArray) (l : Nat) (w : World) (hs : seed.size ≤ 1000) (hl : l < 256) (hK : Kon w) :
    Calls Tryz.prog 103 #[.string seed, .int .i64 l] w fun e w' => e = .returned (.string ⟨(pubKey seed.data.toList l).toArray⟩) ∧ Below w.heap.size w w' := by
  have HK := Lib.hid hK
  clear hK
  go_enter Tryz.func103, Tryz.ntmps103
  go_wp2_with fail
  refine (open_any seed _ hs HK.out).mono ?_
  rintro e w1 ⟨rfl, hb1⟩
  have ho := openOf_length seed.data.toList
  have Hopen := Lib.hid (show openOf seed.data.toList = openOf seed.data.toList from rfl)
  have s1 := hb1.size
  go_wp2_with fail
  go_loopw [6, 10] (fun v i W => ∃ k : Nat, k ≤ 35 ∧ i = .int .i64 k ∧ W.ownsRow w.heap.size 9 1 v k (txs (pubEnds seed.data.toList l k)) ∧ Below w.heap.size w W) (fun _ i _ => 35 - (intOf i).toNat)
  case atStart => exact ⟨0, Nat.zero_le _, rfl, World.ownsRow_nil _ _ _ _, hb1⟩
  case round =>
    obtain ⟨k, hk, rfl, hown, hb⟩ := hrel
    have sz := hb.size
    have Hown := Lib.hid hown
    obtain ⟨av, cv, rfl⟩ := own_slice hown
    clear hown
    by_cases hlt : k < 35
    · have Hsucc := Lib.hid (pubEnds_succ seed.data.toList l k)
      go_wp2_with fail
      refine (secret_any seed l k _ hs hl (by omega) (HK.out.old hb)).mono ?_
      rintro e w2 ⟨rfl, hc2⟩
      have hb2 := hb.trans (hc2.mono sz)
      have s2 := hb2.size
      have hw := walk_any ⟨(openOf seed.data.toList).toArray⟩ ⟨(secretOf seed.data.toList l k).toArray⟩ l k 0 15 w2 (by show (openOf seed.data.toList).toArray.size ≤ 1000; simp [ho]) (by show (secretOf seed.data.toList l k).toArray.size = 16; simp [secretOf_length]) hl (by omega) (by decide) (by decide) (HK.out.old hb2)
      have Hw := Lib.hid hw
      clear hw
      go_wp2_with fail
      refine Hw.out.mono ?_
      rintro e w3 ⟨rfl, hc3⟩
      have hb3 := hb2.trans (hc3.mono s2)
      have hcc := hc2.trans (hc3.mono hc2.size)
      have s3 := hb3.size
      go_wp2_with (at_builtin; refine Hid.out ?_)
      unfold Hid
      have hown3 : w3.ownsRow w.heap.size 9 1 (.slice av k cv) k (txs (pubEnds seed.data.toList l k)) := (Touch.of_below hcc (fun _ => False)).own Hown.out (fun _ _ h => h)
      refine wpList_app1 rfl rfl Tryz.underlying31 Tryz.infoStr rfl hown3 rfl rfl rfl (by omega) (by unfold maxLen; omega) s3 ?_
      intro v4 w4 ho4 hg4
      have hb4 : Below w.heap.size w w4 := hb3.grown hg4 s3 (fun j hj => (hown3.lt j hj).1)
      have ho4 : w4.ownsRow w.heap.size 9 1 v4 (k + 1) (txs (pubEnds seed.data.toList l (k + 1))) := by
        rw [Hsucc.out, txs_snoc]; exact ho4
      obtain ⟨a4, c4, rfl⟩ := own_slice ho4
      clear hown3 hg4
      go_wp2
      go_roundw
      case rel => exact ⟨k + 1, by omega, by go_num, ho4, hb4⟩
      case measure => simp [intOf]; omega
    · have h35 : k = 35 := by omega
      have hge : ¬ (k : Int) < 35 := by omega
      have hp := public_any ⟨(openOf seed.data.toList).toArray⟩ l (.slice av k cv) (pubEnds seed.data.toList l k) wr w.heap.size (by show (openOf seed.data.toList).toArray.size ≤ 1000; simp [ho]) hl k Hown.out (by simp [pubEnds]) (by omega) (by
        intro x hx
        obtain ⟨i, _, rfl⟩ := List.mem_map.1 hx
        have := wk_length (openOf seed.data.toList) l i 0 15 (secretOf seed.data.toList l i) (secretOf_length _ _ _)
        omega) (HK.out.old hb)
      have Hp := Lib.hid hp
      have H35 := Lib.hid h35
      clear hp h35 hlt
      go_wp2_with fail
      refine Hp.out.mono ?_
      rintro e w2 ⟨rfl, hb2⟩
      go_wp2
      go_ret
      exact ⟨by rw [H35.out]; rfl, hb.trans (hb2.mono sz)⟩

end Go.Proofs.YtcgkomafaepjnaaGreatDoor
namespace Go.Proofs.YtcgkomafaepjnaaGreatDoor
open Go.RowKit

/-- A signature's texts. -/
def sigOf (seed : List UInt8) (l : Nat) (ds : List Int) (k : Nat) : List (List UInt8) := (List.range k).map fun i => wk (openOf seed) l i 0 (ds.getD i 0).toNat (secretOf seed l i)
theorem sigOf_succ (seed : List UInt8) (l : Nat) (ds : List Int) (k : Nat) : sigOf seed l ds (k + 1) = sigOf seed l ds k ++ [wk (openOf seed) l k 0 (ds.getD k 0).toNat (secretOf seed l k)] := by simp [sigOf, List.range_succ]
theorem sigOf_length (seed : List UInt8) (l : Nat) (ds : List Int) (k : Nat) : (sigOf seed l ds k).length = k := by simp [sigOf]
theorem sigOf_mem (seed : List UInt8) (l : Nat) (ds : List Int) (k : Nat) : ∀ x ∈ sigOf seed l ds k, x.length = 16 := by
  intro x hx
  obtain ⟨i, _, rfl⟩ := List.mem_map.1 hx
  exact wk_length _ _ _ _ _ _ (secretOf_length _ _ _)
/-- The ends that a signature's texts come to. -/
def recEnds (o : List UInt8) (l : Nat) (ds : List Int) (sig : List (List UInt8)) (k : Nat) : List (List UInt8) := (List.range k).map fun i => wk o l i (ds.getD i 0).toNat (15 - (ds.getD i 0).toNat) (sig.getD i [])
theorem recEnds_succ (o : List UInt8) (l : Nat) (ds : List Int) (sig : List (List UInt8)) (k : Nat) : recEnds o l ds sig (k + 1) = recEnds o l ds sig k ++ [wk o l k (ds.getD k 0).toNat (15 - (ds.getD k 0).toNat) (sig.getD k [])] := by simp [recEnds, List.range_succ]
def recKey (o : List UInt8) (l : Nat) (ds : List Int) (sig : List (List UInt8)) : List UInt8 := publicOf o l (recEnds o l ds sig 35)
theorem recEnds_mem (o : List UInt8) (l : Nat) (ds : List Int) (sig : List (List UInt8)) (k : Nat) (hs : ∀ x ∈ sig, x.length = 16) : ∀ x ∈ recEnds o l ds sig k, x.length ≤ 1000 := by
  intro x hx
  obtain ⟨i, _, rfl⟩ := List.mem_map.1 hx
  have h1 : (sig.getD i []).length ≤ 1000 := by
    rw [List.getD_eq_getElem?_getD]
    cases h : sig[i]? with
    | none => simp
    | some y => have := hs y (List.mem_of_getElem? h); simp [this]
  generalize sig.getD i [] = y at h1
  generalize 15 - (ds.getD i 0).toNat = n
  cases n with
  | zero => exact h1
  | succ n => rw [wk, tagOf_length]; decide
/-- WHAT SIGNS RECOVERS. -/
theorem rec_sig (seed : List UInt8) (l : Nat) (ds : List Int) (hd : ∀ z ∈ ds, 0 ≤ z ∧ z ≤ 15) (h35 : ds.length = 35) : recKey (openOf seed) l ds (sigOf seed l ds 35) = pubKey seed l := by
  unfold recKey pubKey
  congr 1
  unfold recEnds pubEnds
  refine List.map_congr_left fun i hi => ?_
  have hi : i < 35 := List.mem_range.1 hi
  have h1 : (sigOf seed l ds 35).getD i [] = wk (openOf seed) l i 0 (ds.getD i 0).toNat (secretOf seed l i) := by
    unfold sigOf
    rw [List.getD_eq_getElem?_getD, List.getElem?_map, List.getElem?_range hi]; rfl
  have h2 : ds.getD i 0 ∈ ds := by rw [List.getD_eq_getElem?_getD, List.getElem?_eq_getElem (by omega)]; exact List.getElem_mem _
  obtain ⟨h3, h4⟩ := hd _ h2
  rw [h1]
  generalize hd : (ds.getD i 0).toNat = d
  have : d ≤ 15 := by omega
  have h5 := wk_add (openOf seed) l i 0 d (secretOf seed l i) (15 - d)
  rw [Nat.zero_add, show d + (15 - d) = 15 from by omega] at h5
  exact h5.symm

theorem own_base {w : World} {b b' : Nat} {e : TypeId} {size : Nat} {v : Value} {n : Nat} {xs : List Value} (h : w.ownsRow b' e size v n xs) (hb : b ≤ b') : w.ownsRow b e size v n xs :=
  ⟨h.1, h.2.imp id fun ⟨g, cap, cur, h1, h2, h3⟩ => ⟨g, cap, cur, h1, Nat.le_trans hb h2, h3⟩⟩

set_option maxRecDepth 100000 in
set_option maxHeartbeats 1000000 in
theorem wsign_any (seed d : ByteArray) (l : Nat) (w : World) (hs : seed.size ≤ 1000) (hd : d.size = 16) (hl : l < 256) (hK : Kon w) :
    Calls Tryz.prog 131 #[.string seed, .int .i64 l, .string d] w fun e w' => ∃ v, e = .returned (.tuple #[v, .int .i64 0]) ∧ w'.ownsRow w.heap.size 9 1 v 35 (txs (sigOf seed.data.toList l (digs d.data.toList) 35)) ∧ Below w.heap.size w w' := by
  have HK := Lib.hid hK
  have hdl := digs_length d hd
  have hdr := digs_range d
  have Hof := Lib.hid (of_yes d w hd)
  generalize digs d.data.toList = ds at hdl hdr Hof ⊢
  have HR := Lib.hid hdr
  clear hK hdr
  go_enter Tryz.func131, Tryz.ntmps131
  go_wp2_with fail
  refine Hof.out.mono ?_
  rintro e w1 ⟨vd, rfl, hod, hb1⟩
  have s1 := hb1.size
  have HD := Lib.hid (cells_of_own hod)
  obtain ⟨ad, cd, rfl⟩ := own_slice hod
  clear hod
  go_wp2_with fail
  refine (open_any seed _ hs (HK.out.old hb1)).mono ?_
  rintro e w2 ⟨rfl, hc2⟩
  have hb2 := hb1.trans (hc2.mono s1)
  have s2 := hb2.size
  replace HD := Lib.hid (HD.out.old hc2)
  have ho := openOf_length seed.data.toList
  go_wp2_with fail
  go_loopw [11, 26] (fun v i W => ∃ k : Nat, k ≤ 35 ∧ i = .int .i64 k ∧ W.ownsRow w2.heap.size 9 1 v k (txs (sigOf seed.data.toList l ds k)) ∧ Below w2.heap.size w2 W) (fun _ i _ => 35 - (intOf i).toNat)
  case atStart => exact ⟨0, Nat.zero_le _, rfl, World.ownsRow_nil _ _ _ _, Below.refl _ _⟩
  case round =>
    obtain ⟨k, hk, rfl, hown, hb⟩ := hrel
    have sz := hb.size
    have Hown := Lib.hid hown
    obtain ⟨av, cv, rfl⟩ := own_slice hown
    clear hown
    have hKr := Lib.hid (HK.out.old (hb2.trans (hb.mono s2)))
    by_cases hlt : k < 35
    · have Hsucc := Lib.hid (sigOf_succ seed.data.toList l ds k)
      obtain ⟨b, off, rfl, hbl, hc⟩ := HD.out.int_at k hlt
      have hc : wr.cell? ⟨b, off + k, none⟩ = some (.int .i64 (ds.getD k 0)) := (hb.cell (p := ⟨b, off + k, none⟩) hbl).trans hc
      obtain ⟨h0, h15⟩ := HR.out (ds.getD k 0) (by rw [List.getD_eq_getElem?_getD, List.getElem?_eq_getElem (by omega)]; exact List.getElem_mem _)
      obtain ⟨z, hz⟩ := Int.eq_ofNat_of_zero_le h0
      rw [hz] at hc h15
      rw [hz, Int.toNat_natCast] at Hsucc
      clear hz h0
      go_wp2_with fail
      refine (secret_any seed l k _ hs hl (by omega) hKr.out).mono ?_
      rintro e w3 ⟨rfl, hc3⟩
      have hw := walk_any ⟨(openOf seed.data.toList).toArray⟩ ⟨(secretOf seed.data.toList l k).toArray⟩ l k 0 z w3 (by show (openOf seed.data.toList).toArray.size ≤ 1000; simp [ho]) (by show (secretOf seed.data.toList l k).toArray.size = 16; simp [secretOf_length]) hl (by omega) (Nat.zero_le _) (by omega) (hKr.out.old hc3)
      have Hw := Lib.hid hw
      clear hw
      go_wp2_with fail
      refine Hw.out.mono ?_
      rintro e w4 ⟨rfl, hc4⟩
      have hcc := hc3.trans (hc4.mono hc3.size)
      have hb4 := hb.trans (hcc.mono sz)
      have s4 := hb4.size
      go_wp2_with (at_builtin; refine Hid.out ?_)
      unfold Hid
      have hown4 : w4.ownsRow w2.heap.size 9 1 (.slice av k cv) k (txs (sigOf seed.data.toList l ds k)) := (Touch.of_below hcc (fun _ => False)).own Hown.out (fun _ _ h => h)
      refine wpList_app1 rfl rfl Tryz.underlying31 Tryz.infoStr rfl hown4 rfl rfl rfl (by omega) (by unfold maxLen; omega) s4 ?_
      intro v5 w5 ho5 hg5
      have hb5 : Below w2.heap.size w2 w5 := hb4.grown hg5 s4 (fun j hj => (hown4.lt j hj).1)
      have ho5 : w5.ownsRow w2.heap.size 9 1 v5 (k + 1) (txs (sigOf seed.data.toList l ds (k + 1))) := by
        rw [Hsucc.out, txs_snoc]; exact ho5
      obtain ⟨a5, c5, rfl⟩ := own_slice ho5
      clear hown4 hg5
      go_wp2
      go_roundw
      case rel => exact ⟨k + 1, by omega, by go_num, ho5, hb5⟩
      case measure => simp [intOf]; omega
    · have h35 : k = 35 := by omega
      have hge : ¬ (k : Int) < 35 := by omega
      have Hown : Hid (wr.ownsRow w2.heap.size 9 1 (.slice av 35 cv) 35 (txs (sigOf seed.data.toList l ds 35))) := Lib.hid (h35 ▸ Hown.out)
      have H35 := Lib.hid h35
      clear h35 hlt
      go_wp2
      go_ret2
      refine ⟨_, rfl, ?_, hb2.trans (hb.mono s2)⟩
      have := own_base Hown.out s2
      rw [← H35.out] at this ⊢
      exact this

/-- right: are these a signature's texts? -/
theorem wright_any (v : Value) (sig : List (List UInt8)) (w : World) (hv : Cells w v (txs sig)) (h35 : sig.length = 35) (hs : ∀ x ∈ sig, x.length = 16) :
    Calls Tryz.prog 190 #[v] w fun e w' => e = .returned (.bool true) ∧ w = w' := by
  obtain ⟨a, c, rfl, hcc⟩ := hv
  have hl : (txs sig).length = 35 := by rw [txs_length, h35]
  rw [hl] at hcc ⊢
  have HV : Hid (Cells w (.slice a 35 c) (txs sig)) := Lib.hid ⟨a, c, by rw [hl], by rw [hl]; exact hcc⟩
  have HS := Lib.hid hs
  clear hcc hs
  go_enter Tryz.func190, Tryz.ntmps190
  go_wp2_with fail
  go_loop [7] (fun i => ∃ k : Nat, k ≤ 35 ∧ i = .int .i64 k) (fun i => 35 - (intOf i).toNat)
  case atStart => exact ⟨0, Nat.zero_le _, rfl⟩
  case round =>
    obtain ⟨k, hk, rfl⟩ := hrel
    by_cases hlt : k < 35
    · obtain ⟨b, off, rfl, hbl, hc⟩ := HV.out.tx_at k hlt
      have h16 : (sig.getD k []).length = 16 := HS.out _ (by rw [List.getD_eq_getElem?_getD, List.getElem?_eq_getElem (by omega)]; exact List.getElem_mem _)
      have hz : (ByteArray.mk (sig.getD k []).toArray).size = 16 := by show (sig.getD k []).toArray.size = 16; simpa using h16
      generalize (ByteArray.mk (sig.getD k []).toArray) = s at hc hz
      clear h16
      go_wp2
      go_round
      case rel => exact ⟨k + 1, by omega, by go_num⟩
      case measure => simp [intOf]; omega
    · have hge : ¬ (k : Int) < 35 := by omega
      go_wp2
      go_ret
      exact ⟨rfl, rfl⟩

set_option maxRecDepth 100000 in
set_option maxHeartbeats 1000000 in
theorem recover_any (o d : ByteArray) (l : Nat) (v : Value) (sig : List (List UInt8)) (w : World) (ho : o.size ≤ 1000) (hd : d.size = 16) (hl : l < 256) (hv : Cells w v (txs sig)) (h35 : sig.length = 35) (hs : ∀ x ∈ sig, x.length = 16) (hK : Kon w) :
    Calls Tryz.prog 146 #[.string o, .int .i64 l, .string d, v] w fun e w' => e = .returned (.tuple #[.string ⟨(recKey o.data.toList l (digs d.data.toList) sig).toArray⟩, .int .i64 0]) ∧ Below w.heap.size w w' := by
  have HK := Lib.hid hK
  have hdl := digs_length d hd
  have hdr := digs_range d
  have Hof := Lib.hid (of_yes d w hd)
  generalize digs d.data.toList = ds at hdl hdr Hof ⊢
  have HR := Lib.hid hdr
  have HV := Lib.hid hv
  have HS := Lib.hid hs
  obtain ⟨a, c, rfl, _⟩ := hv
  rw [txs_length, h35] at HV ⊢
  clear hK hdr hs
  go_enter Tryz.func146, Tryz.ntmps146
  go_wp2_with fail
  refine Hof.out.mono ?_
  rintro e w1 ⟨vd, rfl, hod, hb1⟩
  have s1 := hb1.size
  have HD := Lib.hid (cells_of_own hod)
  replace HV := Lib.hid (HV.out.old hb1)
  obtain ⟨ad, cd, rfl⟩ := own_slice hod
  clear hod
  go_wp2_with fail
  refine (wright_any _ sig _ HV.out h35 HS.out).mono ?_
  rintro e w' ⟨rfl, rfl⟩
  go_wp2_with fail
  go_loopw [12, 30] (fun v i W => ∃ k : Nat, k ≤ 35 ∧ i = .int .i64 k ∧ W.ownsRow w1.heap.size 9 1 v k (txs (recEnds o.data.toList l ds sig k)) ∧ Below w1.heap.size w1 W) (fun _ i _ => 35 - (intOf i).toNat)
  case atStart => exact ⟨0, Nat.zero_le _, rfl, World.ownsRow_nil _ _ _ _, Below.refl _ _⟩
  case round =>
    obtain ⟨k, hk, rfl, hown, hb⟩ := hrel
    have sz := hb.size
    have Hown := Lib.hid hown
    obtain ⟨av, cv, rfl⟩ := own_slice hown
    clear hown
    have hKr := Lib.hid (HK.out.old (hb1.trans (hb.mono s1)))
    by_cases hlt : k < 35
    · have Hsucc := Lib.hid (recEnds_succ o.data.toList l ds sig k)
      obtain ⟨b, off, rfl, hbl, hc⟩ := HD.out.int_at k hlt
      have hc : wr.cell? ⟨b, off + k, none⟩ = some (.int .i64 (ds.getD k 0)) := (hb.cell (p := ⟨b, off + k, none⟩) hbl).trans hc
      obtain ⟨b2, off2, rfl, hbl2, hc2⟩ := HV.out.tx_at k hlt
      have hc2 : wr.cell? ⟨b2, off2 + k, none⟩ = some (.string ⟨(sig.getD k []).toArray⟩) := (hb.cell (p := ⟨b2, off2 + k, none⟩) hbl2).trans hc2
      have h16 : (sig.getD k []).length = 16 := HS.out _ (by rw [List.getD_eq_getElem?_getD, List.getElem?_eq_getElem (by omega)]; exact List.getElem_mem _)
      obtain ⟨h0, h15⟩ := HR.out (ds.getD k 0) (by rw [List.getD_eq_getElem?_getD, List.getElem?_eq_getElem (by omega)]; exact List.getElem_mem _)
      obtain ⟨z, hz⟩ := Int.eq_ofNat_of_zero_le h0
      rw [hz] at hc h15
      rw [hz, Int.toNat_natCast] at Hsucc
      have hw := walk_any o ⟨(sig.getD k []).toArray⟩ l k z 15 wr ho (by show (sig.getD k []).toArray.size = 16; simpa using h16) hl (by omega) (by omega) (by decide) hKr.out
      rw [show (ByteArray.mk (sig.getD k []).toArray).data.toList = sig.getD k [] from by simp] at hw
      have Hw := Lib.hid hw
      generalize sig.getD k [] = y at Hw Hsucc hc2
      clear hw hz h0 h16
      go_wp2_with fail
      refine Hw.out.mono ?_
      rintro e w4 ⟨rfl, hcc⟩
      have hb4 := hb.trans (hcc.mono sz)
      have s4 := hb4.size
      go_wp2_with (at_builtin; refine Hid.out ?_)
      unfold Hid
      have hown4 : w4.ownsRow w1.heap.size 9 1 (.slice av k cv) k (txs (recEnds o.data.toList l ds sig k)) := (Touch.of_below hcc (fun _ => False)).own Hown.out (fun _ _ h => h)
      refine wpList_app1 rfl rfl Tryz.underlying31 Tryz.infoStr rfl hown4 rfl rfl rfl (by omega) (by unfold maxLen; omega) s4 ?_
      intro v5 w5 ho5 hg5
      have hb5 : Below w1.heap.size w1 w5 := hb4.grown hg5 s4 (fun j hj => (hown4.lt j hj).1)
      have ho5 : w5.ownsRow w1.heap.size 9 1 v5 (k + 1) (txs (recEnds o.data.toList l ds sig (k + 1))) := by
        rw [Hsucc.out, txs_snoc]; exact ho5
      obtain ⟨a5, c5, rfl⟩ := own_slice ho5
      clear hown4 hg5
      go_wp2
      go_roundw
      case rel => exact ⟨k + 1, by omega, by go_num, ho5, hb5⟩
      case measure => simp [intOf]; omega
    · have h35 : k = 35 := by omega
      have hge : ¬ (k : Int) < 35 := by omega
      have hp := public_any o l (.slice av k cv) (recEnds o.data.toList l ds sig k) wr w1.heap.size ho hl k Hown.out (by simp [recEnds]) (by omega) (recEnds_mem _ _ _ _ _ HS.out) hKr.out
      have Hp := Lib.hid hp
      have H35 := Lib.hid h35
      clear hp h35 hlt
      go_wp2_with fail
      refine Hp.out.mono ?_
      rintro e w2 ⟨rfl, hb2⟩
      go_wp2
      go_ret2
      exact ⟨by rw [H35.out]; rfl, (hb1.trans (hb.mono s1)).trans (hb2.mono (by omega))⟩

end Go.Proofs.YtcgkomafaepjnaaGreatDoor
namespace Go.Proofs.YtcgkomafaepjnaaGreatDoor
open Go.RowKit

def nodeOf (a b : List UInt8) : List UInt8 := tagOf 5 [a, b]
theorem mnode_any (a b : ByteArray) (w : World) (ha : a.size ≤ 1000) (hb : b.size ≤ 1000) (hK : Kon w) :
    Calls Tryz.prog 191 #[.string a, .string b] w fun e w' => e = .returned (.string ⟨(nodeOf a.data.toList b.data.toList).toArray⟩) ∧ Below w.heap.size w w' := by
  have hT := Lib.hid (tagged_new 5 [a, b] 2 rfl w (by decide) (by decide) (by rw [tagIn_len]; simp; omega) hK)
  clear hK
  go_enter Tryz.func191, Tryz.ntmps191
  go_wp2_with fail
  refine hT.out.mono ?_
  rintro e w' ⟨rfl, hb⟩
  go_wp2
  go_ret
  exact ⟨rfl, hb⟩

theorem mright_one (w : World) : Calls Tryz.prog 164 #[.int .i64 1] w fun e w' => e = .returned (.bool true) ∧ w = w' := by
  have hb : bits BinOp.and IntKind.i64 1 0 = 0 := by kernel_rfl
  go_enter Tryz.func164, Tryz.ntmps164
  go_wp2
  go_ret
  exact ⟨rfl, rfl⟩

/-- The root above one leaf. -/
theorem mroot_one (g o c : Nat) (x : ByteArray) (w : World) (hx : w.cell? ⟨g, o, none⟩ = some (.string x)) :
    Calls Tryz.prog 104 #[.slice (some ⟨g, o, none⟩) 1 c] w fun e w' => e = .returned (.tuple #[.string x, .int .i64 0]) ∧ w = w' := by
  go_enter Tryz.func104, Tryz.ntmps104
  go_wp2_with fail
  refine (mright_one _).mono ?_
  rintro e w' ⟨rfl, rfl⟩
  go_wp2_with fail
  refine wp_loop_rounds 1 ?_
  rw [rounds_succ]
  go_wp2
  go_ret2
  exact ⟨rfl, rfl⟩

/-- The path from the one leaf. -/
theorem mpath_one (a : Option Addr) (c : Nat) (w : World) :
    Calls Tryz.prog 133 #[.slice a 1 c, .int .i64 0] w fun e w' => e = .returned (.tuple #[.slice none 0 0, .int .i64 0]) ∧ w = w' := by
  go_enter Tryz.func133, Tryz.ntmps133
  go_wp2_with fail
  refine (mright_one _).mono ?_
  rintro e w' ⟨rfl, rfl⟩
  go_wp2_with fail
  refine wp_loop_rounds 1 ?_
  rw [rounds_succ]
  go_wp2
  go_ret2
  exact ⟨rfl, rfl⟩

theorem mclimb_one (x : ByteArray) (w : World) :
    Calls Tryz.prog 147 #[.string x, .int .i64 0, .slice none 0 0] w fun e w' => e = .returned (.string x) ∧ w = w' := by
  go_enter Tryz.func147, Tryz.ntmps147
  go_wp2_with fail
  refine wp_loop_rounds 1 ?_
  rw [rounds_succ]
  go_wp2
  go_ret
  exact ⟨rfl, rfl⟩

end Go.Proofs.YtcgkomafaepjnaaGreatDoor
namespace Go.Proofs.YtcgkomafaepjnaaGreatDoor
open Go.RowKit

/-- A key of one leaf, in block b. -/
def KeyAt (w : World) (b : Nat) (seed : List UInt8) : Prop :=
  ∃ g c, w.heap[b]? = some (.cells #[.string ⟨seed.toArray⟩, .string ⟨(openOf seed).toArray⟩, .string ⟨(pubKey seed 0).toArray⟩, .int .i64 0, .slice (some ⟨g, 0, none⟩) 1 c] 195 (0, 0)) ∧ g < w.heap.size ∧ w.cell? ⟨g, 0, none⟩ = some (.string ⟨(pubKey seed 0).toArray⟩)

/-- A key of height 0, whose one leaf lies beyond it. -/
def KeyOn (w : World) (b : Nat) (seed : List UInt8) : Prop :=
  ∃ g c, w.heap[b]? = some (.cells #[.string ⟨seed.toArray⟩, .string ⟨(openOf seed).toArray⟩, .string ⟨(pubKey seed 0).toArray⟩, .int .i64 0, .slice (some ⟨g, 0, none⟩) 1 c] 195 (0, 0)) ∧ g < w.heap.size ∧ w.cell? ⟨g, 0, none⟩ = some (.string ⟨(pubKey seed 0).toArray⟩) ∧ b ≤ g
theorem KeyOn.at {w : World} {b : Nat} {seed : List UInt8} (h : KeyOn w b seed) : KeyAt w b seed := by
  obtain ⟨g, c, h1, h2, h3, _⟩ := h
  exact ⟨g, c, h1, h2, h3⟩
theorem KeyOn.touch {S : Nat → Prop} {w w' : World} {b : Nat} {seed : List UInt8} (h : KeyOn w b seed) (ht : Touch S w w') (hs : ∀ k, b ≤ k → k < w.heap.size → ¬ S k) : KeyOn w' b seed := by
  obtain ⟨g, c, h1, h2, h3, h4⟩ := h
  exact ⟨g, c, ht.heap h1 (hs b (Nat.le_refl _) (Array.getElem?_eq_some_iff.1 h1).1), Nat.lt_of_lt_of_le h2 ht.size, (World.cell?_of_block (w := w) (w' := w') (a := ⟨g, 0, none⟩) (ht.block g h2 (hs g h4 h2))).trans h3, h4⟩

/-- A cell that stands, and may be written. -/
theorem keepC {W W' : World} {b j : Nat} {x : Value} (h : W.cell? ⟨b, j, none⟩ = some x) (hf : W.frozen? ⟨b, j, none⟩ = false) (hb : Below W.heap.size W W') (hlt : b < W.heap.size) : W'.cell? ⟨b, j, none⟩ = some x ∧ W'.frozen? ⟨b, j, none⟩ = false ∧ Below W.heap.size W W' :=
  ⟨(hb.cell (p := ⟨b, j, none⟩) hlt).trans h, (World.frozen?_of_block (w := W) (w' := W') (a := ⟨b, j, none⟩) (hb.block b hlt)).trans hf, hb⟩
theorem keepE {W w5 : World} {b j : Nat} {x : Value} (h : W.cell? ⟨b, j, none⟩ = some x) (hf : W.frozen? ⟨b, j, none⟩ = false) (hb : Below W.heap.size W w5) (hlt : b < W.heap.size) : ∀ o, (w5.alloc o).cell? ⟨b, j, none⟩ = some x := fun o =>
  (keepC h hf (hb.alloc hb.size o) hlt).1
theorem keepD {W w5 w6 : World} {b j : Nat} {x : Value} {o : Obj} (h : w5.cell? ⟨b, j, none⟩ = some x) (hf : w5.frozen? ⟨b, j, none⟩ = false) (hb5 : Below W.heap.size W w5) (hg : (w5.alloc o).grownBy w6 none) (hlt : b < W.heap.size) : w6.cell? ⟨b, j, none⟩ = some x ∧ w6.frozen? ⟨b, j, none⟩ = false ∧ Below W.heap.size W w6 := by
  have h5 := hb5.size
  have hb6 : Below w5.heap.size w5 w6 := ((Below.refl w5.heap.size w5).alloc (Nat.le_refl _) o).grown hg (by simp) (fun k hk => by cases hk)
  have hl : b < w5.heap.size := by omega
  exact ⟨(hb6.cell (p := ⟨b, j, none⟩) hl).trans h, (World.frozen?_of_block (w := w5) (w' := w6) (a := ⟨b, j, none⟩) (hb6.block b hl)).trans hf, hb5.trans (hb6.mono h5)⟩
theorem below_drew (W : World) : Below W.heap.size W W.drew := ⟨rfl, rfl, rfl, Nat.le_refl _, fun _ _ => rfl⟩
theorem below_drewN {B : Nat} (W : World) (n : Nat) : Below B W (W.drewN n) := ⟨rfl, rfl, rfl, Nat.le_refl _, fun _ _ => rfl⟩
theorem below_call {W w5 : World} (hb : Below W.drew.heap.size W.drew w5) : Below W.heap.size W w5 := (below_drew W).trans hb
theorem below_two {W w5 : World} (hb : Below W.heap.size W w5) (o o' : Obj) : Below W.heap.size W ((w5.alloc o).alloc o').drew :=
  ((hb.alloc hb.size o).alloc (by have := hb.size; simp; omega) o').trans ⟨rfl, rfl, rfl, Nat.le_refl _, fun _ _ => rfl⟩

set_option maxRecDepth 100000 in
set_option maxHeartbeats 4000000 in
theorem xnew_zero (seed : ByteArray) (w : World) (hs : seed.size ≤ 1000) (hK : Kon w) :
    Calls Tryz.prog 62 #[.string seed, .int .i64 0] w fun e w' => ∃ b, e = .returned (.tuple #[.pointer (some ⟨b, 0, none⟩), .int .i64 0]) ∧ w.heap.size ≤ b ∧ KeyOn w' b seed.data.toList ∧ Below w.heap.size w w' := by
  have HK := Lib.hid hK
  clear hK
  obtain ⟨i0, hi, hz0, hz1, hz2⟩ := info_parts Tryz.infoStr
  go_enter Tryz.func62, Tryz.ntmps62
  go_wp2_with fail
  refine wp_loop_rounds 2 ?_
  rw [rounds_succ]
  have hb1 : Below w.heap.size w (w.alloc (.cells #[.string seed, .string ⟨#[]⟩, .string ⟨#[]⟩, .int .i64 0, .slice none 0 0] 195)) := (Below.refl _ _).alloc (Nat.le_refl _) _
  have hk1 : (w.alloc (.cells #[.string seed, .string ⟨#[]⟩, .string ⟨#[]⟩, .int .i64 0, .slice none 0 0] 195)).heap[w.heap.size]? = some (.cells #[.string seed, .string ⟨#[]⟩, .string ⟨#[]⟩, .int .i64 0, .slice none 0 0] 195 (0, 0)) := heap_alloc_new _ _
  generalize (w.alloc (.cells #[.string seed, .string ⟨#[]⟩, .string ⟨#[]⟩, .int .i64 0, .slice none 0 0] 195)) = W1 at hb1 hk1 ⊢
  go_wp2_with fail
  have z4 : W1.cell? ⟨w.heap.size, 4, none⟩ = some (.slice none 0 0) := by rw [cell_of_row _ _ 4 _ _ _ hk1]; rfl
  have hlt : w.heap.size < W1.heap.size := (Array.getElem?_eq_some_iff.1 hk1).1
  have z4f : W1.frozen? ⟨w.heap.size, 4, none⟩ = false := frozen_of_row _ _ 4 _ _ hk1
  have hcall := pubKey_any seed 0 W1.drew hs (by decide) (HK.out.old (hb1.trans ((below_drew W1).mono (by omega))))
  have hS0 := Lib.hid (keepC z4 z4f (below_drew W1) hlt)
  have hS1 := Lib.hid (fun w5 (hb5 : Below W1.drew.heap.size W1.drew w5) => keepC z4 z4f (below_call hb5) hlt)
  have hS2 := Lib.hid (fun w5 o (hb5 : Below W1.drew.heap.size W1.drew w5) => keepC z4 z4f ((below_call hb5).alloc (below_call hb5).size o) hlt)
  have hS3 := Lib.hid (fun w5 o o' (hb5 : Below W1.drew.heap.size W1.drew w5) => keepC z4 z4f (below_two (below_call hb5) o o') hlt)
  have hpk := Lib.hid (show pubKey seed.data.toList 0 = pubKey seed.data.toList 0 from rfl)
  go_region_law (first
    | (go_simp; go_at_call 103; refine hcall.mono ?_; rintro r w5 ⟨rfl, hb5⟩; obtain ⟨z5, z5f, hb5'⟩ := keepC z4 z4f (below_call hb5) hlt; have z5a := keepE z4 z4f (below_call hb5) hlt)
    | (refine step_append_lies _ (by rfl) _ _ _ (by rfl) w.heap.size 9 i0 _ 1 16 Tryz.underlying31 hi hz0 hz1 hz2 rfl (by omega) (.slice none 0 0) 0 [] (by rfl) (World.ownsRow_nil _ _ _ _) ⟨w5.heap.size, 0, none⟩ 1 1 [.string ⟨(pubKey seed.data.toList 0).toArray⟩] (by rfl) (by rfl) (World.news_of_block (cs := #[.string ⟨(pubKey seed.data.toList 0).toArray⟩]) (t := 9) (fr := (0, 0)) (heap_alloc_new w5 _)) (by simp [Value.oneCell']) (by omega) (by unfold maxLen; omega) (by omega) (by have := hb5'.size; simp; omega) (w5.heap.size + 1) (by simp) ?_; intro gg cap2 w6 ho6 hg6 hat hlt6; obtain ⟨z6, z6f, hb6⟩ := keepD z5 z5f hb5' hg6 hlt))
  all_goals
    clear hcall z5 z5f z5a z4 z4f hpk
    obtain ⟨gc, cc, hvc, hgB, hgl, hgc, hcell⟩ := own_opened ho6 (by decide)
    injection hvc with e1 _ e3
    injection e1 with e1
    injection e1 with e1 _ _
    subst e1 e3
    have hne : w.heap.size ≠ gg := by
      rcases hat with h | h
      · cases h
      · have := hb5'.size; omega
    have hk6 : w6.heap[w.heap.size]? = some (.cells #[.string seed, .string ⟨#[]⟩, .string ⟨#[]⟩, .int .i64 0, .slice none 0 0] 195 (0, 0)) := (hb6.block w.heap.size hlt).trans hk1
    have hk7 := heap_setCell_same w6 w.heap.size 4 _ _ (.slice (some ⟨gg, 0, none⟩) 1 cap2) hk6
    have hg7 : (w6.setCell ⟨w.heap.size, 4, none⟩ (.slice (some ⟨gg, 0, none⟩) 1 cap2)).cell? ⟨gg, 0, none⟩ = some (.string ⟨(pubKey seed.data.toList 0).toArray⟩) := by
      rw [World.cell?_setCell_other _ _ _ _ (by intro e; injection e with e; exact hne e)]
      exact hcell 0 _ rfl
    have hb7 : Below w.heap.size w (w6.setCell ⟨w.heap.size, 4, none⟩ (.slice (some ⟨gg, 0, none⟩) 1 cap2)) := (hb1.trans (hb6.mono (by omega))).setCell (Nat.le_refl _) _
    have hgl7 : gg < (w6.setCell ⟨w.heap.size, 4, none⟩ (.slice (some ⟨gg, 0, none⟩) 1 cap2)).heap.size := by simpa [World.setCell] using hgl
    generalize (w6.setCell ⟨w.heap.size, 4, none⟩ (.slice (some ⟨gg, 0, none⟩) 1 cap2)) = W7 at hk7 hg7 hb7 hgl7 ⊢
    have hk7 : W7.heap[w.heap.size]? = some (.cells #[.string seed, .string ⟨#[]⟩, .string ⟨#[]⟩, .int .i64 0, .slice (some ⟨gg, 0, none⟩) 1 cap2] 195 (0, 0)) := hk7
    clear hk6 hcell ho6 hg6 hat hb6 hb5 hb5' hk1
    have y4 : W7.cell? ⟨w.heap.size, 4, none⟩ = some (.slice (some ⟨gg, 0, none⟩) 1 cap2) := by rw [cell_of_row _ _ 4 _ _ _ hk7]; rfl
    go_wp2_with fail
    rw [rounds_succ]
    go_wp2_with fail
    refine (mroot_one gg 0 cap2 _ W7 hg7).mono ?_
    rintro e w' ⟨rfl, rfl⟩
    go_wp2_with fail
    refine (open_any seed _ hs (HK.out.old hb7)).mono ?_
    rintro e w8 ⟨rfl, hb8⟩
    have s7 := hb7.size
    have hl7 : w.heap.size < W7.heap.size := (Array.getElem?_eq_some_iff.1 hk7).1
    have hk8 := (hb8.block w.heap.size hl7).trans hk7
    have hg8 := (hb8.cell (p := ⟨gg, 0, none⟩) hgl7).trans hg7
    have s8 := hb8.size
    have x1 : w8.cell? ⟨w.heap.size, 1, none⟩ = some (.string ⟨#[]⟩) := by rw [cell_of_row _ _ 1 _ _ _ hk8]; rfl
    have x2 : w8.cell? ⟨w.heap.size, 2, none⟩ = some (.string ⟨#[]⟩) := by rw [cell_of_row _ _ 2 _ _ _ hk8]; rfl
    have x3 : w8.cell? ⟨w.heap.size, 3, none⟩ = some (.int .i64 0) := by rw [cell_of_row _ _ 3 _ _ _ hk8]; rfl
    have f1 : w8.frozen? ⟨w.heap.size, 1, none⟩ = false := frozen_of_row _ _ 1 _ _ hk8
    have f2 : w8.frozen? ⟨w.heap.size, 2, none⟩ = false := frozen_of_row _ _ 2 _ _ hk8
    have f3 : w8.frozen? ⟨w.heap.size, 3, none⟩ = false := frozen_of_row _ _ 3 _ _ hk8
    have hk9 := heap_setCell_same _ w.heap.size 3 _ _ (.int .i64 0) (heap_setCell_same _ w.heap.size 2 _ _ (.string ⟨(pubKey seed.data.toList 0).toArray⟩) (heap_setCell_same w8 w.heap.size 1 _ _ (.string ⟨(openOf seed.data.toList).toArray⟩) hk8))
    clear hk7 hg7 y4
    go_wp2
    go_ret2
    refine ⟨_, rfl, Nat.le_refl _, ⟨gg, cap2, ?_, ?_, ?_, hgB⟩, ?_⟩
    · rw [hk9]
      simp
    · simp only [World.setCell, Array.size_modify]; omega
    · rw [World.cell?_setCell_other _ _ _ _ (by intro e; injection e with e; exact hne e), World.cell?_setCell_other _ _ _ _ (by intro e; injection e with e; exact hne e), World.cell?_setCell_other _ _ _ _ (by intro e; injection e with e; exact hne e)]
      exact hg8
    · exact (((hb7.trans (hb8.mono s7)).setCell (Nat.le_refl _) _).setCell (Nat.le_refl _) _).setCell (Nat.le_refl _) _

end Go.Proofs.YtcgkomafaepjnaaGreatDoor
