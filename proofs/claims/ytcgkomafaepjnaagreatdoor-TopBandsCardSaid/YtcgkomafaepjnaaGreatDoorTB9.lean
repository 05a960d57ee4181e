/- Package proof: climb. Conditions: short texts, at most 128 of them. | Package proof: pair, the node above two leaves. Conditions: two keys of sixteen bytes that aren't the same, short nodes. | Package proof: Node, Has, Lacks, After of a good proof. Conditions: short texts. | Package proof: Has, Lacks, After of a good proof. Conditions: short texts. | Package proof: After, where another key stands there. Conditions: short texts. | Package xmss at one leaf: the public key, a signature, that it is verified. Conditions: seeds and messages of at most a thousand bytes; the round's constants hold what their initialiser lays. -/
import Derived.Test.YtcgkomafaepjnaaGreatDoorTB8
import Derived.Test.YtcgkomafaepjnaaGreatDoorTB1
import Derived.Test.YtcgkomafaepjnaaGreatDoorTB7
import Derived.Laws.ResultCell
namespace Go.Proofs.YtcgkomafaepjnaaGreatDoor
open Go.RowKit Go.Shelf

attribute [local go_sem] Oper.semAt_some

/-- One step up. -/
def stepUp (key : Tx) (d : Nat) (acc : Tx) (q : Item) : Tx := if bitAt key (d + q.1.1) = 0 then hs.jn acc q.1.2 else hs.jn q.1.2 acc
def foldUp (key : Tx) (d : Nat) (x0 : Tx) (l : List Item) : Tx := l.foldl (stepUp key d) x0
theorem foldUp_snoc (key : Tx) (d : Nat) (x0 : Tx) (l : List Item) (q : Item) : foldUp key d x0 (l ++ [q]) = stepUp key d (foldUp key d x0 l) q := by simp [foldUp]
theorem jn_le (a b : Tx) (ha : a.length ≤ 1000) (hb : b.length ≤ 1000) : (hs.jn a b).length ≤ 1000 := by
  unfold Hs.jn
  split
  · exact hb
  · split
    · exact ha
    · show (nfOf a b).length ≤ 1000
      rw [nfOf_length]; decide
theorem stepUp_le (key : Tx) (d : Nat) (acc : Tx) (q : Item) (ha : acc.length ≤ 1000) : (stepUp key d acc q).length ≤ 1000 := by
  unfold stepUp
  split
  · exact jn_le _ _ ha q.2.2
  · exact jn_le _ _ q.2.2 ha
theorem foldUp_le (key : Tx) (d : Nat) (x0 : Tx) (l : List Item) (h0 : x0.length ≤ 1000) : (foldUp key d x0 l).length ≤ 1000 := by
  unfold foldUp
  induction l generalizing x0 with
  | nil => exact h0
  | cons q l ih => exact ih _ (stepUp_le key d x0 q h0)
theorem foldUp_back (key : Tx) (d : Nat) (x0 : Tx) (bs : List Tx) (h : bs.length ≤ 128 ∧ ∀ s ∈ bs, s.length ≤ 1000) : ∀ k, k ≤ bs.length → foldUp key d x0 (uptoI (backItem bs h) k) = hs.climb key (bs.drop (bs.length - k)) (d + (bs.length - k)) x0
  | 0, _ => by
    rw [Nat.sub_zero, List.drop_length]; rfl
  | k + 1, hk => by
    rw [uptoI_succ, foldUp_snoc, foldUp_back key d x0 bs h k (by omega)]
    obtain ⟨j, hj⟩ : ∃ j, bs.length - (k + 1) = j := ⟨_, rfl⟩
    have hj1 : bs.length - k = j + 1 := by omega
    have hjl : j < bs.length := by omega
    have e1 : (backItem bs h k).1.1 = j := by show bs.length - 1 - k = j; omega
    have e2 : (backItem bs h k).1.2 = bs[j] := by
      show bs.getD (bs.length - 1 - k) [] = bs[j]
      rw [show bs.length - 1 - k = j from by omega, List.getD_eq_getElem?_getD, List.getElem?_eq_getElem hjl]; rfl
    rw [hj, hj1, List.drop_eq_getElem_cons hjl, Hs.climb]
    unfold stepUp
    rw [e1, e2, show d + (j + 1) = d + j + 1 from by omega]
    by_cases hb : bitAt key (d + j) = 0
    · rw [if_pos hb, hb, if_pos (show ((0 : Int) == 0) = true from rfl)]
    · rw [if_neg hb, if_neg (by simpa using hb)]
theorem foldUp_all (key : Tx) (d : Nat) (x0 : Tx) (bs : List Tx) (h : bs.length ≤ 128 ∧ ∀ s ∈ bs, s.length ≤ 1000) : foldUp key d x0 (uptoI (backItem bs h) bs.length) = hs.climb key bs d x0 := by
  rw [foldUp_back key d x0 bs h bs.length (Nat.le_refl _), Nat.sub_self, List.drop_zero, Nat.add_zero]

theorem keyrow_lt {w : World} {a : Option Addr} {c : Nat} {bs : List Tx} (h : Keyrow w a c bs) (hne : 0 < bs.length) : ∀ g o, a = some ⟨g, o, none⟩ → g < w.heap.size := by
  intro g o e
  obtain ⟨g', o', e', hg, _⟩ := h.cell 0 hne
  rw [e] at e'
  injection e' with e'
  injection e' with e1 e2
  omega

set_option maxRecDepth 100000 in
set_option maxHeartbeats 4000000 in
theorem pclimb_any (v : Value) (p : Pf) (x key : Tx) (d : Nat) (w : World) (hv : PfAt w v p) (hbs : p.beside.length ≤ 128 ∧ ∀ s ∈ p.beside, s.length ≤ 1000) (hx : x.length ≤ 1000) (hk : key.length = 16) (hd : d ≤ 128) (hK : Kon w) :
    Calls Tryz.prog 95 #[v, .string ⟨x.toArray⟩, .string ⟨key.toArray⟩, .int .i64 (d : Int)] w fun e w' => e = .returned (.string ⟨(hs.climb key p.beside d x).toArray⟩) ∧ Below w.heap.size w w' := by
  obtain ⟨a, c, rfl, hrow⟩ := hv
  obtain ⟨bs, there, pk, pv⟩ := p
  dsimp only at *
  rw [← foldUp_all key d x bs hbs]
  obtain ⟨len, hlen⟩ : ∃ len, bs.length = len := ⟨_, rfl⟩
  rw [hlen]
  refine (callsIn_wide (n := 5)).1 ?_
  have h1 : 1 ≤ 5 := by decide
  refine callsIn_of_wp_marks Tryz.func95 rfl trivial ?_ rfl
  simp only [Tryz.ntmps95, List.size_toArray, List.length_cons, List.length_nil, Nat.reduceAdd, Nat.reduceSub, Array.replicate_succ, Array.replicate_zero, List.push_toArray, List.append_toArray, List.nil_append, List.cons_append]
  gi_wp2_with fail
  obtain ⟨W, hW⟩ : ∃ W, W = (((w.alloc (.cells #[.slice a len c, .bool there, .string ⟨pk.toArray⟩, .string ⟨pv.toArray⟩] 51)).alloc (.cells #[.string ⟨x.toArray⟩] 9)).alloc (.cells #[.string ⟨key.toArray⟩] 9)).alloc (.cells #[.int .i64 (d : Int)] 3) := ⟨_, rfl⟩
  have hB0 : Below w.heap.size w W := by rw [hW]; exact ((((Below.refl _ w).alloc (Nat.le_refl _) _).alloc (by simp) _).alloc (by simp; omega) _).alloc (by simp; omega) _
  have hsz : W.heap.size = w.heap.size + 4 := by rw [hW]; simp
  have bX : Boxed W (w.heap.size + 1) 9 (.string ⟨x.toArray⟩) := by
    have := ((Boxed.new (w.alloc (.cells #[.slice a len c, .bool there, .string ⟨pk.toArray⟩, .string ⟨pv.toArray⟩] 51)) 9 (.string ⟨x.toArray⟩)).alloc (.cells #[.string ⟨key.toArray⟩] 9)).alloc (.cells #[.int .i64 (d : Int)] 3)
    rw [← hW] at this
    simpa using this
  have bK : Boxed W (w.heap.size + 1 + 1) 9 (.string ⟨key.toArray⟩) := by
    have := (Boxed.new ((w.alloc (.cells #[.slice a len c, .bool there, .string ⟨pk.toArray⟩, .string ⟨pv.toArray⟩] 51)).alloc (.cells #[.string ⟨x.toArray⟩] 9)) 9 (.string ⟨key.toArray⟩)).alloc (.cells #[.int .i64 (d : Int)] 3)
    rw [← hW] at this
    simpa using this
  have bD : Boxed W (w.heap.size + 1 + 1 + 1) 3 (.int .i64 (d : Int)) := by
    have := Boxed.new (((w.alloc (.cells #[.slice a len c, .bool there, .string ⟨pk.toArray⟩, .string ⟨pv.toArray⟩] 51)).alloc (.cells #[.string ⟨x.toArray⟩] 9)).alloc (.cells #[.string ⟨key.toArray⟩] 9)) 3 (.int .i64 (d : Int))
    rw [← hW] at this
    simpa using this
  rw [← hW]
  clear hW
  have hltw := fun h => keyrow_lt hrow h
  have hrow0 := hrow.old hB0
  refine ⟨trivial, (backs_in Fence.wide 4 trivial rfl a len c W).mono ?_⟩
  rintro e w2 ⟨rfl, rfl⟩
  have bN := Boxed.new W 31 (.slice a len c)
  have hBW : Below W.heap.size W (W.alloc (.cells #[.slice a len c] 31)) := (Below.refl _ W).alloc (Nat.le_refl _) _
  have hB1 := hB0.trans (hBW.mono hB0.size)
  have hsz1 : (W.alloc (.cells #[.slice a len c] 31)).heap.size = w.heap.size + 5 := by simp; omega
  have bX1 := bX.alloc (.cells #[.slice a len c] 31)
  have bK1 := bK.alloc (.cells #[.slice a len c] 31)
  have bD1 := bD.alloc (.cells #[.slice a len c] 31)
  have hrow1 := hrow0.old hBW
  rw [hsz] at bN ⊢
  generalize W.alloc (.cells #[.slice a len c] 31) = W1 at bN hB1 hsz1 bX1 bK1 bD1 hrow1 ⊢
  clear bX bK bD hrow0 hBW hB0 hrow
  gi_wp2_with fail
  · refine wpIn_rangeFunc_ownF rfl h1 (gf := 194) (lb := #[.pointer (some ⟨w.heap.size + 4, 0, none⟩)]) rfl trivial (enters_of Tryz.func194 (by kernel_rfl) rfl)
      (backs_stops Fence.wide 4 trivial rfl (by decide) (w.heap.size + 4) (w.heap.size + 1) (w.heap.size + 5) a c len bs hbs hlen W1 (by omega) (by omega) (by omega) bN.cell hrow1 (fun h g o e => by have := hltw (by omega) g o e; omega)) kpT_t (kpT_b (by omega)) (Below.refl _ _) (fun _ => rfl)
      (fun pre W => (W.cell? ⟨w.heap.size + 1, 0, none⟩ = some (.string ⟨(foldUp key d x pre).toArray⟩) ∧ W.frozen? ⟨w.heap.size + 1, 0, none⟩ = false ∧ W.cell? ⟨w.heap.size + 1 + 1, 0, none⟩ = some (.string ⟨key.toArray⟩) ∧ W.cell? ⟨w.heap.size + 1 + 1 + 1, 0, none⟩ = some (.int .i64 (d : Int))) ∧ Below w.heap.size w W)
      (fun _ _ _ => False)
      (OwnFrom.and (Own.from (fun s A B row hs hg hr => ⟨cell_kept hs.1 hg hr, (frozen_kept hs.1 hg hr).trans hs.2.1, cell_kept hs.2.2.1 hg hr, cell_kept hs.2.2.2 hg hr⟩) _) (ownFrom_below (Nat.le_refl _) (by omega)))
      (fun _ _ _ _ _ hs _ _ => hs)
      ⟨⟨bX1.cell, bX1.frozen, bK1.cell, bD1.cell⟩, hB1⟩
      (fun q => { tmps := #[.agg #[.slice a len c, .bool there, .string ⟨pk.toArray⟩, .string ⟨pv.toArray⟩], .string ⟨x.toArray⟩, .string ⟨key.toArray⟩, .int .i64 (d : Int), .pointer (some ⟨w.heap.size, 0, none⟩), .pointer (some ⟨w.heap.size + 1, 0, none⟩), .pointer (some ⟨w.heap.size + 1 + 1, 0, none⟩), .pointer (some ⟨w.heap.size + 1 + 1 + 1, 0, none⟩), .string ⟨#[]⟩, .int .i64 (q.1.1 : Int), .string ⟨q.1.2.toArray⟩, .pointer (some ⟨w.heap.size, 0, none⟩), .slice a len c, .func (.func 194) #[] #[.pointer (some ⟨w.heap.size + 4, 0, none⟩)], .int .i64 (q.1.1 : Int), .string ⟨q.1.2.toArray⟩, undef, undef, undef, undef, undef, undef, undef, undef, undef, undef, undef, undef, undef], defers := [] }) ?assign ?body ?done ?stop
    case assign =>
      intro l q W K hK
      unfold encI
      gi_wp2
      exact hK
    case stop => rintro D c pre W _ _ h; exact h.elim
    case done =>
      rintro D ys W hD rfl ⟨⟨hc, _⟩, hB⟩ hK
      gi_wp2
      refine ⟨by simp, .inl ⟨_, _, rfl, run_takeDeferred hK, ?_⟩⟩
      exact ⟨_, results_tmp rfl _ _ _, rfl, hB.trans (belowK_b (w := w) (Nat.le_refl _) W D _ _ (by omega) hK rfl rfl)⟩
    case body =>
      rintro l pre ⟨⟨i, t⟩, hi, ht⟩ W ⟨⟨hc, hf, hck, hcd⟩, hB⟩ _
      dsimp only at *
      have Hfold := Lib.hid (foldUp_snoc key d x pre ⟨(i, t), hi, ht⟩)
      have hle := foldUp_le key d x pre hx
      unfold stepUp at Hfold
      dsimp only at Hfold
      generalize foldUp key d x pre = y at hc hle Hfold
      have ht' : t.length ≤ 1000 := ht
      have hi' : i < 128 := hi
      have hKW : Kon W := hK.old hB
      have hlW := hB.size
      have hw : wrap64 ((d : Int) + i) = (d : Int) + i := IntWalk.wrap64_in _ (by omega)
      have hbit := bit_any ⟨key.toArray⟩ ((d : Int) + i) W (by show key.toArray.size ≤ _; rw [List.size_toArray]; omega)
      have eb : bitI (ByteArray.mk key.toArray).data.toList ((d : Int) + i) = bitAt key (d + i) := by
        rw [show (d : Int) + i = ((d + i : Nat) : Int) from by omega, bitI_nat]
      rw [eb] at hbit
      have hj0 := Lib.hid (join_any y t W (by omega) (by omega) hKW)
      have hj1 := Lib.hid (join_any t y W (by omega) (by omega) hKW)
      have hlx := World.block_lt_of_cell? W _ hc
      have hlk := World.block_lt_of_cell? W _ hck
      have hld := World.block_lt_of_cell? W _ hcd
      have fin : Hid (∀ (J : Tx) (W' : World), Below W.heap.size W W' → foldUp key d x (pre ++ [⟨(i, t), hi, ht⟩]) = J →
          KeepsOthers W (W'.setCell ⟨w.heap.size + 1, 0, none⟩ (.string ⟨J.toArray⟩)) ∧ KpT (w.heap.size + 1) (w.heap.size + 5) W (W'.setCell ⟨w.heap.size + 1, 0, none⟩ (.string ⟨J.toArray⟩)) ∧
          (((W'.setCell ⟨w.heap.size + 1, 0, none⟩ (.string ⟨J.toArray⟩)).cell? ⟨w.heap.size + 1, 0, none⟩ = some (.string ⟨(foldUp key d x (pre ++ [⟨(i, t), hi, ht⟩])).toArray⟩) ∧ (W'.setCell ⟨w.heap.size + 1, 0, none⟩ (.string ⟨J.toArray⟩)).frozen? ⟨w.heap.size + 1, 0, none⟩ = false ∧ (W'.setCell ⟨w.heap.size + 1, 0, none⟩ (.string ⟨J.toArray⟩)).cell? ⟨w.heap.size + 1 + 1, 0, none⟩ = some (.string ⟨key.toArray⟩) ∧ (W'.setCell ⟨w.heap.size + 1, 0, none⟩ (.string ⟨J.toArray⟩)).cell? ⟨w.heap.size + 1 + 1 + 1, 0, none⟩ = some (.int .i64 (d : Int))) ∧ Below w.heap.size w (W'.setCell ⟨w.heap.size + 1, 0, none⟩ (.string ⟨J.toArray⟩)))) := Lib.hid (by
        intro J W' hb eJ
        have c1 := (hb.cell (p := ⟨w.heap.size + 1, 0, none⟩) hlx).trans hc
        refine ⟨(KeepsOthers.trans ⟨hb.size, fun k o hk _ => (hb.block k (Array.getElem?_eq_some_iff.1 hk).1).trans hk⟩ (KeepsOthers.setCell _ _ _)), (Touch.of_below hb _).trans (Touch.setCell (S := fun k => k = w.heap.size + 1 ∨ w.heap.size + 5 ≤ k) W' ⟨w.heap.size + 1, 0, none⟩ _ (.inl rfl)), ⟨?_, ?_, ?_, ?_⟩, (hB.trans (hb.mono hlW)).setCell (p := ⟨w.heap.size + 1, 0, none⟩) (Nat.le_succ _) _⟩
        · rw [eJ]; exact World.cell?_setCell_same' _ _ _ (by rw [c1]; rfl)
        · rw [World.frozen?_setCell, hb.frozen (p := ⟨w.heap.size + 1, 0, none⟩) hlx]; exact hf
        · rw [World.cell?_setCell_other (a := ⟨w.heap.size + 1, 0, none⟩) (b := ⟨w.heap.size + 1 + 1, 0, none⟩) (h := by intro h; injection h with h; omega)]
          exact (hb.cell (p := ⟨w.heap.size + 1 + 1, 0, none⟩) hlk).trans hck
        · rw [World.cell?_setCell_other (a := ⟨w.heap.size + 1, 0, none⟩) (b := ⟨w.heap.size + 1 + 1 + 1, 0, none⟩) (h := by intro h; injection h with h; omega)]
          exact (hb.cell (p := ⟨w.heap.size + 1 + 1 + 1, 0, none⟩) hld).trans hcd)
      have hkeepc := Lib.hid (fun (W' : World) (hb : Below W.heap.size W W') => And.intro ((hb.cell (p := ⟨w.heap.size + 1, 0, none⟩) hlx).trans hc) ((hb.frozen (p := ⟨w.heap.size + 1, 0, none⟩) hlx).trans hf))
      have hc0 : (bitAt key (d + i) = 0 ∧ Hid (foldUp key d x (pre ++ [⟨(i, t), hi, ht⟩]) = hs.jn y t)) ∨ (bitAt key (d + i) = 1 ∧ Hid (foldUp key d x (pre ++ [⟨(i, t), hi, ht⟩]) = hs.jn t y)) := by
        rcases bit_cases key (d + i) with e | e
        · exact .inl ⟨e, Lib.hid (by rw [Hfold.out, if_pos e])⟩
        · exact .inr ⟨e, Lib.hid (by rw [Hfold.out, if_neg (by rw [e]; decide)])⟩
      clear Hfold hlx hlk hld eb
      generalize bitAt key (d + i) = bt at hbit hc0
      generalize hs.jn y t = J0 at hj0 hc0
      generalize hs.jn t y = J1 at hj1 hc0
      gi_wp2_with fail
      refine ⟨trivial, ?_⟩
      refine (callsIn_wide.2 hbit).mono ?_
      rintro e w' ⟨rfl, rfl⟩
      rcases hc0 with ⟨rfl, hF⟩ | ⟨rfl, hF⟩
      · gi_wp2_with fail
        refine ⟨trivial, ?_⟩
        refine (callsIn_wide.2 hj0.out).mono ?_
        rintro e w3 ⟨rfl, hb3⟩
        obtain ⟨k1, k2⟩ := hkeepc.out w3 hb3
        have f1 := Lib.hid (fin.out _ w3 hb3 hF.out)
        gi_wp2
        exact f1.out
      · gi_wp2_with fail
        refine ⟨trivial, ?_⟩
        refine (callsIn_wide.2 hj1.out).mono ?_
        rintro e w3 ⟨rfl, hb3⟩
        obtain ⟨k1, k2⟩ := hkeepc.out w3 hb3
        have f1 := Lib.hid (fin.out _ w3 hb3 hF.out)
        gi_wp2
        exact f1.out

end Go.Proofs.YtcgkomafaepjnaaGreatDoor
namespace Go.Proofs.YtcgkomafaepjnaaGreatDoor
open Go.RowKit

/-- Up the way where nothing stands beside it. -/
def upEmp (a : Tx) (m k : Nat) (z : Tx) : Tx := hs.climb a (List.replicate k emp) (m - k) z
theorem upEmp_zero (a : Tx) (m : Nat) (z : Tx) : upEmp a m 0 z = z := rfl
theorem upEmp_succ (a : Tx) (m k : Nat) (z : Tx) (hk : k < m) : upEmp a m (k + 1) z = if bitAt a (m - (k + 1)) = 0 then hs.jn (upEmp a m k z) emp else hs.jn emp (upEmp a m k z) := by
  unfold upEmp
  rw [List.replicate_succ, Hs.climb, show m - (k + 1) + 1 = m - k from by omega]
  by_cases hb : bitAt a (m - (k + 1)) = 0
  · rw [if_pos hb, hb, if_pos (show ((0 : Int) == 0) = true from rfl)]
  · rw [if_neg hb, if_neg (by simpa using hb)]
theorem upEmp_le (a : Tx) (m : Nat) (z : Tx) (hz : z.length ≤ 1000) : ∀ k, k ≤ m → (upEmp a m k z).length ≤ 1000
  | 0, _ => hz
  | k + 1, hk => by
    have := upEmp_le a m z hz k (by omega)
    rw [upEmp_succ a m k z (by omega)]
    split
    · exact jn_le _ _ this (by decide)
    · exact jn_le _ _ (by decide) this
theorem upEmp_pair (a : Tx) (m d : Nat) (x y : Tx) : upEmp a m (m - d) (if bitAt a m = 1 then hs.jn y x else hs.jn x y) = if d ≤ m then hs.pair a m x y d else (if bitAt a m = 1 then hs.jn y x else hs.jn x y) := by
  by_cases h : d ≤ m
  · rw [if_pos h]
    unfold upEmp Hs.pair
    rw [show m - (m - d) = d from by omega]
    by_cases hb : bitAt a m = 1
    · rw [if_pos hb, hb, if_pos (show ((1 : Int) == 1) = true from rfl)]
    · rw [if_neg hb, if_neg (by simpa using hb)]
  · rw [if_neg h, show m - d = 0 from by omega]; rfl
theorem pair_past (a : Tx) (m d : Nat) (x y : Tx) (h : ¬ d ≤ m) : (if bitAt a m = 1 then hs.jn y x else hs.jn x y) = hs.pair a m x y d := by
  unfold Hs.pair
  rw [show m - d = 0 from by omega]
  by_cases hb : bitAt a m = 1
  · rw [if_pos hb, hb]; rfl
  · rw [if_neg hb]
    rcases bit_cases a m with e | e
    · rw [e]; rfl
    · exact absurd e hb
theorem upEmp_fin (a : Tx) (m d : Nat) (x y : Tx) : upEmp a m (m - d) (if bitAt a m = 1 then hs.jn y x else hs.jn x y) = hs.pair a m x y d := by
  rw [upEmp_pair]
  by_cases h : d ≤ m
  · rw [if_pos h]
  · rw [if_neg h]; exact pair_past a m d x y h

set_option maxRecDepth 100000 in
set_option maxHeartbeats 4000000 in
theorem ppair_any (a b x y : Tx) (d : Nat) (w : World) (ha : a.length = 16) (hb : b.length = 16) (hne : a ≠ b) (hx : x.length ≤ 1000) (hy : y.length ≤ 1000) (hd : d ≤ 128) (hK : Kon w) :
    Calls Tryz.prog 96 #[.string ⟨a.toArray⟩, .string ⟨b.toArray⟩, .string ⟨x.toArray⟩, .string ⟨y.toArray⟩, .int .i64 (d : Int)] w fun e w' => ∃ m, m < 128 ∧ alikeTo a b m = true ∧ bitAt a m ≠ bitAt b m ∧ e = .returned (.string ⟨(hs.pair a m x y d).toArray⟩) ∧ Below w.heap.size w w' := by
  have hcom := Lib.hid (common_any ⟨a.toArray⟩ ⟨b.toArray⟩ 16 w (by show a.toArray.size = 16; rw [List.size_toArray, ha]) (by show b.toArray.size = 16; rw [List.size_toArray, hb]) (by decide))
  have HK := Lib.hid hK
  clear hK
  go_enter Tryz.func96, Tryz.ntmps96
  go_wp2_with fail
  refine hcom.out.mono ?_
  rintro e w1 ⟨m, rfl, hm, hal, hdif, q, rfl⟩
  clear hcom
  have hB1 : Below w.heap.size w (w.drewN q) := ⟨rfl, rfl, rfl, Nat.le_refl _, fun _ _ => rfl⟩
  generalize w.drewN q = w1 at hB1 ⊢
  have hal : alikeTo a b m = true := hal
  have hm128 : m < 128 := by
    rcases Nat.lt_or_ge m 128 with h | h
    · exact h
    · exact absurd (key_of_alike a b ha hb (by rw [show (128 : Nat) = m from by omega]; exact hal)) hne
  have hdif : bitAt a m ≠ bitAt b m := hdif hm128
  have hbit := fun (k : Nat) (W : World) => bit_any ⟨a.toArray⟩ (k : Int) W (by show a.toArray.size ≤ _; rw [List.size_toArray]; omega)
  have hbit : Hid (∀ (k : Nat) (W : World), Calls Tryz.prog 46 #[.string ⟨a.toArray⟩, .int .i64 (k : Int)] W fun e w' => e = .returned (.int .i64 (bitAt a k)) ∧ W = w') := Lib.hid (fun k W => by
    have := hbit k W
    rw [bitI_nat] at this
    exact this)
  have hb1 := hbit.out m w1
  have HB1 := Lib.hid hB1
  have Hres := Lib.hid (And.intro hal hdif)
  clear hal hdif hm
  have hz := Lib.hid (upEmp_fin a m d x y)
  have hzl : Hid ((if bitAt a m = 1 then hs.jn y x else hs.jn x y).length ≤ 1000) := Lib.hid (by split <;> exact jn_le _ _ (by assumption) (by assumption))
  have h0 : Hid ((bitAt a m = 1 ∧ Hid ((if bitAt a m = 1 then hs.jn y x else hs.jn x y) = hs.jn y x)) ∨ (bitAt a m = 0 ∧ Hid ((if bitAt a m = 1 then hs.jn y x else hs.jn x y) = hs.jn x y))) := Lib.hid (by
    rcases bit_cases a m with e | e
    · exact .inr ⟨e, Lib.hid (if_neg (by rw [e]; decide))⟩
    · exact .inl ⟨e, Lib.hid (if_pos e)⟩)
  have hsucc := Lib.hid (fun k (hk : k < m) => upEmp_succ a m k (if bitAt a m = 1 then hs.jn y x else hs.jn x y) hk)
  have hlen := Lib.hid (fun k (hk : k ≤ m) => upEmp_le a m (if bitAt a m = 1 then hs.jn y x else hs.jn x y) hzl.out k hk)
  have hzero := Lib.hid (upEmp_zero a m (if bitAt a m = 1 then hs.jn y x else hs.jn x y))
  generalize (if bitAt a m = 1 then hs.jn y x else hs.jn x y) = z at hz hzl h0 hsucc hlen hzero
  have hjx := Lib.hid (join_any x y w1 (by omega) (by omega) (HK.out.old hB1))
  have hjy := Lib.hid (join_any y x w1 (by omega) (by omega) (HK.out.old hB1))
  go_wp2_with fail
  refine hb1.mono ?_
  rintro e w' ⟨rfl, rfl⟩
  clear hb1
  have tail : ∀ (W : World), Below w.heap.size w W → Hid (∀ k, k < m - d → Calls Tryz.prog 52 #[.string ⟨(upEmp a m k z).toArray⟩, .string ⟨#[0]⟩] W (fun e w' => e = .returned (.string ⟨(hs.jn (upEmp a m k z) emp).toArray⟩) ∧ Below W.heap.size W w') ∧ Calls Tryz.prog 52 #[.string ⟨#[0]⟩, .string ⟨(upEmp a m k z).toArray⟩] W (fun e w' => e = .returned (.string ⟨(hs.jn emp (upEmp a m k z)).toArray⟩) ∧ Below W.heap.size W w')) := fun W hB => Lib.hid (fun k hk => by
    have hl := hlen.out k (by omega)
    exact ⟨join_any (upEmp a m k z) emp W (by omega) (by decide) (HK.out.old hB), join_any emp (upEmp a m k z) W (by decide) (by omega) (HK.out.old hB)⟩)
  have tailH := Lib.hid tail
  clear tail hlen hx hy
  rcases h0.out with ⟨e0, hzz⟩ | ⟨e0, hzz⟩
  · rw [← hzz.out] at hjy
    clear hjx hzz h0
    go_wp2_with fail
    refine hjy.out.mono ?_
    rintro e w2 ⟨rfl, hB2⟩
    have hBw : Below w.heap.size w w2 := HB1.out.trans (hB2.mono HB1.out.size)
    clear hjy e0 hB2
    go_wp2_with fail
    go_loopw [11, 12] (fun i v W => ∃ k : Nat, k ≤ m - d ∧ i = .int .i64 ((m : Int) - 1 - k) ∧ v = .string ⟨(upEmp a m k z).toArray⟩ ∧ Below w.heap.size w W) (fun i _ _ => (intOf i + 1 - d).toNat)
    case atStart => exact ⟨0, Nat.zero_le _, by simp, by rw [hzero.out], hBw⟩
    case round =>
      obtain ⟨k, hk, rfl, rfl, hB⟩ := hrel
      have sz := hB.size
      have hJ := tailH.out wr hB
      by_cases hlt : k < m - d
      · obtain ⟨j, hj⟩ : ∃ j, m - (k + 1) = j := ⟨_, rfl⟩
        have hji : (m : Int) - 1 - k = (j : Int) := by omega
        have hnext : Hid ((m : Int) - 1 - ((k + 1 : Nat) : Int) = (j : Int) - 1) := Lib.hid (by omega)
        have hdj : (d : Int) ≤ (j : Int) := by omega
        have hb2 := hbit.out j wr
        have hs1 := hsucc.out k (by omega)
        rw [hj] at hs1
        have hJ1 := Lib.hid (hJ.out k hlt)
        have hk1 : Hid (k + 1 ≤ m - d) := Lib.hid (by omega)
        rw [hji]
        generalize upEmp a m k z = t at hJ1 hs1
        have hj128 : j < 128 := by omega
        clear hJ hlt hk hj hji
        by_cases hbz : bitAt a j = 0
        · rw [if_pos hbz] at hs1
          rw [hbz] at hb2
          have Hs1 := Lib.hid hs1
          clear hs1 hbz
          go_wp2_with fail
          refine hb2.mono ?_
          rintro e w3 ⟨rfl, rfl⟩
          clear hb2
          go_wp2_with fail
          refine hJ1.out.1.mono ?_
          rintro e w4 ⟨rfl, hB4⟩
          rw [← Hs1.out]
          have hB5 := hB.trans (hB4.mono sz)
          clear hB hB4 sz
          go_wp2
          go_roundw
          case rel => exact ⟨k + 1, hk1.out, by rw [hnext.out], rfl, hB5⟩
          case measure => simp [intOf]; omega
        · have e1 : bitAt a j = 1 := (bit_cases a j).resolve_left hbz
          rw [if_neg hbz] at hs1
          rw [e1] at hb2
          have Hs1 := Lib.hid hs1
          clear hs1 hbz e1
          go_wp2_with fail
          refine hb2.mono ?_
          rintro e w3 ⟨rfl, rfl⟩
          clear hb2
          go_wp2_with fail
          refine hJ1.out.2.mono ?_
          rintro e w4 ⟨rfl, hB4⟩
          rw [← Hs1.out]
          have hB5 := hB.trans (hB4.mono sz)
          clear hB hB4 sz
          go_wp2
          go_roundw
          case rel => exact ⟨k + 1, hk1.out, by rw [hnext.out], rfl, hB5⟩
          case measure => simp [intOf]; omega
      · obtain rfl : k = m - d := by omega
        have hz1 := hz.out
        have hge : ¬ (d : Int) ≤ (m : Int) - 1 - ((m - d : Nat) : Int) := by omega
        rw [hz1]
        generalize hmi : (m : Int) - 1 - ((m - d : Nat) : Int) = mi at hge ⊢
        clear hmi hz1 hJ hlt hk
        go_wp2
        go_ret
        exact ⟨m, hm128, Hres.out.1, Hres.out.2, rfl, hB⟩
  · rw [← hzz.out] at hjx
    clear hjy hzz h0
    go_wp2_with fail
    refine hjx.out.mono ?_
    rintro e w2 ⟨rfl, hB2⟩
    have hBw : Below w.heap.size w w2 := HB1.out.trans (hB2.mono HB1.out.size)
    clear hjx e0 hB2
    go_wp2_with fail
    go_loopw [11, 12] (fun i v W => ∃ k : Nat, k ≤ m - d ∧ i = .int .i64 ((m : Int) - 1 - k) ∧ v = .string ⟨(upEmp a m k z).toArray⟩ ∧ Below w.heap.size w W) (fun i _ _ => (intOf i + 1 - d).toNat)
    case atStart => exact ⟨0, Nat.zero_le _, by simp, by rw [hzero.out], hBw⟩
    case round =>
      obtain ⟨k, hk, rfl, rfl, hB⟩ := hrel
      have sz := hB.size
      have hJ := tailH.out wr hB
      by_cases hlt : k < m - d
      · obtain ⟨j, hj⟩ : ∃ j, m - (k + 1) = j := ⟨_, rfl⟩
        have hji : (m : Int) - 1 - k = (j : Int) := by omega
        have hnext : Hid ((m : Int) - 1 - ((k + 1 : Nat) : Int) = (j : Int) - 1) := Lib.hid (by omega)
        have hdj : (d : Int) ≤ (j : Int) := by omega
        have hb2 := hbit.out j wr
        have hs1 := hsucc.out k (by omega)
        rw [hj] at hs1
        have hJ1 := Lib.hid (hJ.out k hlt)
        have hk1 : Hid (k + 1 ≤ m - d) := Lib.hid (by omega)
        rw [hji]
        generalize upEmp a m k z = t at hJ1 hs1
        have hj128 : j < 128 := by omega
        clear hJ hlt hk hj hji
        by_cases hbz : bitAt a j = 0
        · rw [if_pos hbz] at hs1
          rw [hbz] at hb2
          have Hs1 := Lib.hid hs1
          clear hs1 hbz
          go_wp2_with fail
          refine hb2.mono ?_
          rintro e w3 ⟨rfl, rfl⟩
          clear hb2
          go_wp2_with fail
          refine hJ1.out.1.mono ?_
          rintro e w4 ⟨rfl, hB4⟩
          rw [← Hs1.out]
          have hB5 := hB.trans (hB4.mono sz)
          clear hB hB4 sz
          go_wp2
          go_roundw
          case rel => exact ⟨k + 1, hk1.out, by rw [hnext.out], rfl, hB5⟩
          case measure => simp [intOf]; omega
        · have e1 : bitAt a j = 1 := (bit_cases a j).resolve_left hbz
          rw [if_neg hbz] at hs1
          rw [e1] at hb2
          have Hs1 := Lib.hid hs1
          clear hs1 hbz e1
          go_wp2_with fail
          refine hb2.mono ?_
          rintro e w3 ⟨rfl, rfl⟩
          clear hb2
          go_wp2_with fail
          refine hJ1.out.2.mono ?_
          rintro e w4 ⟨rfl, hB4⟩
          rw [← Hs1.out]
          have hB5 := hB.trans (hB4.mono sz)
          clear hB hB4 sz
          go_wp2
          go_roundw
          case rel => exact ⟨k + 1, hk1.out, by rw [hnext.out], rfl, hB5⟩
          case measure => simp [intOf]; omega
      · obtain rfl : k = m - d := by omega
        have hz1 := hz.out
        have hge : ¬ (d : Int) ≤ (m : Int) - 1 - ((m - d : Nat) : Int) := by omega
        rw [hz1]
        generalize hmi : (m : Int) - 1 - ((m - d : Nat) : Int) = mi at hge ⊢
        clear hmi hz1 hJ hlt hk
        go_wp2
        go_ret
        exact ⟨m, hm128, Hres.out.1, Hres.out.2, rfl, hB⟩

end Go.Proofs.YtcgkomafaepjnaaGreatDoor
namespace Go.Proofs.YtcgkomafaepjnaaGreatDoor
open Go.RowKit

theorem okNode_le (s : Tx) (h : okNode s = true) : s.length ≤ 1000 := by
  unfold okNode at h
  rcases Bool.or_eq_true _ _ ▸ h with e | e
  · have : s = emp := by simpa using e
    rw [this]; decide
  · rw [Bool.and_eq_true] at e
    have : s.length = 17 := by simpa using e.1
    omega
theorem IsGood.small {p : Pf} {key : Tx} {d : Nat} (h : IsGood p key d) : p.beside.length ≤ 128 ∧ ∀ s ∈ p.beside, s.length ≤ 1000 :=
  ⟨by have := h.room; omega, fun s hs => okNode_le s (h.nodes s hs)⟩
theorem IsGood.dep {p : Pf} {key : Tx} {d : Nat} (h : IsGood p key d) : d ≤ 128 := by have := h.room; omega
theorem IsGood.klen {p : Pf} {key : Tx} {d : Nat} (h : IsGood p key d) : p.key.length ≤ 16 := by
  cases ht : p.there with
  | false => rw [(h.none ht).1]; decide
  | true => rw [(h.some ht).1]; exact Nat.le_refl _

/-- The four cells of a boxed proof. -/
def PfCells (W : World) (b : Nat) (sl : Value) (there : Bool) (k v : ByteArray) : Prop :=
  W.cell? ⟨b, 0, none⟩ = some sl ∧ W.cell? ⟨b, 1, none⟩ = some (.bool there) ∧ W.cell? ⟨b, 2, none⟩ = some (.string k) ∧ W.cell? ⟨b, 3, none⟩ = some (.string v)

set_option maxRecDepth 100000 in
set_option maxHeartbeats 4000000 in
theorem pnd_any (v : Value) (p : Pf) (key : Tx) (d : Nat) (w : World) (hv : PfAt w v p) (hg : IsGood p key d) (hval : p.val.length ≤ 1000) (hK : Kon w) :
    Calls Tryz.prog 49 #[v, .string ⟨key.toArray⟩, .int .i64 (d : Int)] w fun e w' => e = .returned (.string ⟨(hs.climb key p.beside d (hs.foot p)).toArray⟩) ∧ Below w.heap.size w w' := by
  have hgood := Lib.hid (fun (W : World) (hb : Below w.heap.size w W) => pgood_any v p key d W (hv.old hb) hg)
  have hclimb := Lib.hid (fun (W : World) (hb : Below w.heap.size w W) => pclimb_any v p (hs.foot p) key d W (hv.old hb) hg.small (by
    unfold Hs.foot; split
    · show (lfOf p.key p.val).length ≤ 1000
      rw [lfOf_length]; decide
    · decide) hg.len hg.dep (hK.old hb))
  have hkl := hg.klen
  obtain ⟨a, c, rfl, hrow⟩ := hv
  obtain ⟨bs, there, pk, pv⟩ := p
  dsimp only at *
  have hleaf := Lib.hid (fun (W : World) (hb : Below w.heap.size w W) => lfnode_any pk pv W (by omega) (by omega) (hK.old hb))
  clear hg hrow hK hval hkl
  generalize bs.length = len at hgood hclimb ⊢
  obtain ⟨W0, hW0⟩ : ∃ W0, W0 = w.alloc (.cells #[.slice a len c, .bool there, .string ⟨pk.toArray⟩, .string ⟨pv.toArray⟩] 51) := ⟨_, rfl⟩
  have hB0 : Below w.heap.size w W0 := by rw [hW0]; exact (Below.refl _ _).alloc (Nat.le_refl _) _
  have hl0 : w.heap.size < W0.heap.size := by rw [hW0]; simp
  have hrow0 : W0.heap[w.heap.size]? = some (.cells #[.slice a len c, .bool there, .string ⟨pk.toArray⟩, .string ⟨pv.toArray⟩] 51 (0, 0)) := by rw [hW0]; exact heap_alloc_new _ _
  have HC := Lib.hid (fun (W : World) (hb : Below W0.heap.size W0 W) => four_of_cells ((hb.block _ hl0).trans hrow0))
  have HB0 := Lib.hid hB0
  obtain ⟨x0, x1, x2, x3⟩ := HC.out W0 (Below.refl _ _)
  clear hB0 hrow0
  cases there
  · have e : hs.foot ⟨bs, false, pk, pv⟩ = emp := rfl
    rw [e] at hclimb ⊢
    generalize hs.climb key bs d emp = N at hclimb ⊢
    clear hleaf
    go_enter Tryz.func49, Tryz.ntmps49
    go_wp2_with fail
    rw [← hW0]
    refine (hgood.out W0 HB0.out).mono ?_
    rintro e w1 ⟨rfl, hB1⟩
    obtain ⟨y0, y1, y2, y3⟩ := HC.out w1 hB1
    have hBw := HB0.out.trans (hB1.mono HB0.out.size)
    have hc1 := hclimb.out w1 hBw
    clear hgood hclimb x0 x1 x2 x3 hW0
    go_wp2_with fail
    refine hc1.mono ?_
    rintro e w2 ⟨rfl, hB2⟩
    go_wp2
    go_ret
    exact ⟨rfl, hBw.trans (hB2.mono hBw.size)⟩
  · have e : hs.foot ⟨bs, true, pk, pv⟩ = lfOf pk pv := rfl
    rw [e] at hclimb ⊢
    generalize hs.climb key bs d (lfOf pk pv) = N at hclimb ⊢
    generalize lfOf pk pv = L at hclimb hleaf
    go_enter Tryz.func49, Tryz.ntmps49
    go_wp2_with fail
    rw [← hW0]
    refine (hgood.out W0 HB0.out).mono ?_
    rintro e w1 ⟨rfl, hB1⟩
    obtain ⟨y0, y1, y2, y3⟩ := HC.out w1 hB1
    have hBw := HB0.out.trans (hB1.mono HB0.out.size)
    have hl1 := hleaf.out w1 hBw
    clear hgood hleaf x0 x1 x2 x3 hW0
    go_wp2_with fail
    refine hl1.mono ?_
    rintro e w2 ⟨rfl, hB2⟩
    have hB12 := hB1.trans (hB2.mono hB1.size)
    have hBw2 := hBw.trans (hB2.mono hBw.size)
    obtain ⟨z0, z1, z2, z3⟩ := HC.out w2 hB12
    have hc1 := hclimb.out w2 hBw2
    clear hclimb y0 y1 y2 y3 hl1
    go_wp2_with fail
    refine hc1.mono ?_
    rintro e w3 ⟨rfl, hB3⟩
    go_wp2
    go_ret
    exact ⟨rfl, hBw2.trans (hB3.mono hBw2.size)⟩

end Go.Proofs.YtcgkomafaepjnaaGreatDoor
namespace Go.Proofs.YtcgkomafaepjnaaGreatDoor
open Go.RowKit

set_option maxRecDepth 100000 in
set_option maxHeartbeats 4000000 in
theorem phas_any (v : Value) (p : Pf) (key : Tx) (d : Nat) (w : World) (hv : PfAt w v p) (hg : IsGood p key d) (hval : p.val.length ≤ 1000) (hK : Kon w) (ht : p.there = true) (hk : p.key = key) :
    Calls Tryz.prog 20 #[v, .string ⟨(hs.climb key p.beside d (hs.foot p)).toArray⟩, .string ⟨key.toArray⟩, .string ⟨p.val.toArray⟩, .int .i64 (d : Int)] w fun e w' => e = .returned (.bool true) ∧ Below w.heap.size w w' := by
  have hgood := Lib.hid (fun (W : World) (hb : Below w.heap.size w W) => pgood_any v p key d W (hv.old hb) hg)
  have hnode := Lib.hid (fun (W : World) (hb : Below w.heap.size w W) => pnd_any v p key d W (hv.old hb) hg hval (hK.old hb))
  obtain ⟨a, c, rfl, hrow⟩ := hv
  obtain ⟨bs, there, pk, pv⟩ := p
  dsimp only at *
  subst ht hk
  clear hg hrow hK hval
  generalize hs.climb pk bs d (hs.foot ⟨bs, true, pk, pv⟩) = N at hnode ⊢
  generalize bs.length = len at hgood hnode ⊢
  obtain ⟨W0, hW0⟩ : ∃ W0, W0 = w.alloc (.cells #[.slice a len c, .bool true, .string ⟨pk.toArray⟩, .string ⟨pv.toArray⟩] 51) := ⟨_, rfl⟩
  have hB0 : Below w.heap.size w W0 := by rw [hW0]; exact (Below.refl _ _).alloc (Nat.le_refl _) _
  have hl0 : w.heap.size < W0.heap.size := by rw [hW0]; simp
  have hrow0 : W0.heap[w.heap.size]? = some (.cells #[.slice a len c, .bool true, .string ⟨pk.toArray⟩, .string ⟨pv.toArray⟩] 51 (0, 0)) := by rw [hW0]; exact heap_alloc_new _ _
  have HC := Lib.hid (fun (W : World) (hb : Below W0.heap.size W0 W) => four_of_cells ((hb.block _ hl0).trans hrow0))
  have HB0 := Lib.hid hB0
  obtain ⟨x0, x1, x2, x3⟩ := HC.out W0 (Below.refl _ _)
  clear hB0 hrow0
  go_enter Tryz.func20, Tryz.ntmps20
  go_wp2_with fail
  rw [← hW0]
  refine (hgood.out W0 HB0.out).mono ?_
  rintro e w1 ⟨rfl, hB1⟩
  obtain ⟨y0, y1, y2, y3⟩ := HC.out w1 hB1
  have hBw := HB0.out.trans (hB1.mono HB0.out.size)
  have hn1 := hnode.out w1 hBw
  clear hgood hnode x0 x1 x2 x3 hW0
  go_wp2_with fail
  refine hn1.mono ?_
  rintro e w2 ⟨rfl, hB2⟩
  go_wp2
  go_ret
  exact ⟨by simp, hBw.trans (hB2.mono hBw.size)⟩

set_option maxRecDepth 100000 in
set_option maxHeartbeats 4000000 in
theorem placks_any (v : Value) (p : Pf) (key N : Tx) (d : Nat) (w : World) (hv : PfAt w v p) (hg : IsGood p key d) (ht : p.there = true) (hk : p.key = key) :
    Calls Tryz.prog 21 #[v, .string ⟨N.toArray⟩, .string ⟨key.toArray⟩, .int .i64 (d : Int)] w fun e w' => e = .returned (.bool false) ∧ Below w.heap.size w w' := by
  have hgood := Lib.hid (fun (W : World) (hb : Below w.heap.size w W) => pgood_any v p key d W (hv.old hb) hg)
  obtain ⟨a, c, rfl, hrow⟩ := hv
  obtain ⟨bs, there, pk, pv⟩ := p
  dsimp only at *
  subst ht hk
  clear hg hrow
  generalize bs.length = len at hgood ⊢
  obtain ⟨W0, hW0⟩ : ∃ W0, W0 = w.alloc (.cells #[.slice a len c, .bool true, .string ⟨pk.toArray⟩, .string ⟨pv.toArray⟩] 51) := ⟨_, rfl⟩
  have hB0 : Below w.heap.size w W0 := by rw [hW0]; exact (Below.refl _ _).alloc (Nat.le_refl _) _
  have hl0 : w.heap.size < W0.heap.size := by rw [hW0]; simp
  have hrow0 : W0.heap[w.heap.size]? = some (.cells #[.slice a len c, .bool true, .string ⟨pk.toArray⟩, .string ⟨pv.toArray⟩] 51 (0, 0)) := by rw [hW0]; exact heap_alloc_new _ _
  have HC := Lib.hid (fun (W : World) (hb : Below W0.heap.size W0 W) => four_of_cells ((hb.block _ hl0).trans hrow0))
  have HB0 := Lib.hid hB0
  obtain ⟨x0, x1, x2, x3⟩ := HC.out W0 (Below.refl _ _)
  clear hB0 hrow0
  go_enter Tryz.func21, Tryz.ntmps21
  go_wp2_with fail
  rw [← hW0]
  refine (hgood.out W0 HB0.out).mono ?_
  rintro e w1 ⟨rfl, hB1⟩
  obtain ⟨y0, y1, y2, y3⟩ := HC.out w1 hB1
  have hBw := HB0.out.trans (hB1.mono HB0.out.size)
  clear hgood x0 x1 x2 x3 hW0
  go_wp2
  go_ret
  exact ⟨by simp, hBw⟩

/-- What After reckons. -/
def afterOf (p : Pf) (key value : Tx) (d m : Nat) : Tx :=
  hs.climb key p.beside d (if p.there && p.key != key then hs.pair key m (hs.lf key value) (hs.lf p.key p.val) (d + p.beside.length) else hs.lf key value)

set_option maxRecDepth 100000 in
set_option maxHeartbeats 4000000 in
theorem pafter_plain (v : Value) (p : Pf) (key value : Tx) (d : Nat) (w : World) (hv : PfAt w v p) (hg : IsGood p key d) (hval : p.val.length ≤ 1000) (hvl : value.length ≤ 1000) (hK : Kon w) (hc : (p.there && p.key != key) = false) :
    Calls Tryz.prog 50 #[v, .string ⟨key.toArray⟩, .string ⟨value.toArray⟩, .int .i64 (d : Int)] w fun e w' => e = .returned (.tuple #[.string ⟨(hs.climb key p.beside d (lfOf key value)).toArray⟩, .int .i64 0]) ∧ Below w.heap.size w w' := by
  have hgood := Lib.hid (fun (W : World) (hb : Below w.heap.size w W) => pgood_any v p key d W (hv.old hb) hg)
  have hklen := hg.len
  have hleaf := Lib.hid (fun (W : World) (hb : Below w.heap.size w W) => lfnode_any key value W (by omega) (by omega) (hK.old hb))
  have hclimb := Lib.hid (fun (W : World) (hb : Below w.heap.size w W) => pclimb_any v p (lfOf key value) key d W (hv.old hb) hg.small (by rw [lfOf_length]; decide) hg.len hg.dep (hK.old hb))
  obtain ⟨a, c, rfl, hrow⟩ := hv
  obtain ⟨bs, there, pk, pv⟩ := p
  dsimp only at *
  clear hg hrow hK hval hvl hklen
  generalize hs.climb key bs d (lfOf key value) = N at hclimb ⊢
  generalize lfOf key value = L at hclimb hleaf
  generalize bs.length = len at hgood hclimb ⊢
  obtain ⟨W0, hW0⟩ : ∃ W0, W0 = w.alloc (.cells #[.slice a len c, .bool there, .string ⟨pk.toArray⟩, .string ⟨pv.toArray⟩] 51) := ⟨_, rfl⟩
  have hB0 : Below w.heap.size w W0 := by rw [hW0]; exact (Below.refl _ _).alloc (Nat.le_refl _) _
  have hl0 : w.heap.size < W0.heap.size := by rw [hW0]; simp
  have hrow0 : W0.heap[w.heap.size]? = some (.cells #[.slice a len c, .bool there, .string ⟨pk.toArray⟩, .string ⟨pv.toArray⟩] 51 (0, 0)) := by rw [hW0]; exact heap_alloc_new _ _
  have HC := Lib.hid (fun (W : World) (hb : Below W0.heap.size W0 W) => four_of_cells ((hb.block _ hl0).trans hrow0))
  have HB0 := Lib.hid hB0
  obtain ⟨x0, x1, x2, x3⟩ := HC.out W0 (Below.refl _ _)
  clear hB0 hrow0
  have hpk : there = false ∨ (there = true ∧ pk = key) := by
    cases there with
    | false => exact .inl rfl
    | true => exact .inr ⟨rfl, by simpa using hc⟩
  clear hc
  rcases hpk with rfl | ⟨rfl, rfl⟩
  · go_enter Tryz.func50, Tryz.ntmps50
    go_wp2_with fail
    rw [← hW0]
    refine (hgood.out W0 HB0.out).mono ?_
    rintro e w1 ⟨rfl, hB1⟩
    obtain ⟨y0, y1, y2, y3⟩ := HC.out w1 hB1
    have hBw := HB0.out.trans (hB1.mono HB0.out.size)
    have hl1 := hleaf.out w1 hBw
    clear hgood hleaf x0 x1 x2 x3 hW0
    go_wp2_with fail
    refine hl1.mono ?_
    rintro e w2 ⟨rfl, hB2⟩
    have hB12 := hB1.trans (hB2.mono hB1.size)
    have hBw2 := hBw.trans (hB2.mono hBw.size)
    obtain ⟨z0, z1, z2, z3⟩ := HC.out w2 hB12
    have hc1 := hclimb.out w2 hBw2
    clear hclimb y0 y1 y2 y3 hl1
    go_wp2_with fail
    refine hc1.mono ?_
    rintro e w3 ⟨rfl, hB3⟩
    go_wp2
    go_ret2
    exact ⟨rfl, hBw2.trans (hB3.mono hBw2.size)⟩
  · go_enter Tryz.func50, Tryz.ntmps50
    go_wp2_with fail
    rw [← hW0]
    refine (hgood.out W0 HB0.out).mono ?_
    rintro e w1 ⟨rfl, hB1⟩
    obtain ⟨y0, y1, y2, y3⟩ := HC.out w1 hB1
    have hBw := HB0.out.trans (hB1.mono HB0.out.size)
    have hl1 := hleaf.out w1 hBw
    clear hgood hleaf x0 x1 x2 x3 hW0
    go_wp2_with fail
    refine hl1.mono ?_
    rintro e w2 ⟨rfl, hB2⟩
    have hB12 := hB1.trans (hB2.mono hB1.size)
    have hBw2 := hBw.trans (hB2.mono hBw.size)
    obtain ⟨z0, z1, z2, z3⟩ := HC.out w2 hB12
    have hc1 := hclimb.out w2 hBw2
    clear hclimb y0 y1 y2 y3 hl1
    go_wp2_with fail
    refine hc1.mono ?_
    rintro e w3 ⟨rfl, hB3⟩
    go_wp2
    go_ret2
    exact ⟨rfl, hBw2.trans (hB3.mono hBw2.size)⟩

end Go.Proofs.YtcgkomafaepjnaaGreatDoor
namespace Go.Proofs.YtcgkomafaepjnaaGreatDoor
open Go.RowKit

theorem hs_lf (k v : Tx) : hs.lf k v = lfOf k v := rfl

set_option maxRecDepth 100000 in
set_option maxHeartbeats 8000000 in
theorem pafter_pair (v : Value) (p : Pf) (key value : Tx) (d : Nat) (w : World) (hv : PfAt w v p) (hg : IsGood p key d) (hval : p.val.length ≤ 1000) (hvl : value.length ≤ 1000) (hK : Kon w) (ht : p.there = true) (hne : p.key ≠ key) :
    Calls Tryz.prog 50 #[v, .string ⟨key.toArray⟩, .string ⟨value.toArray⟩, .int .i64 (d : Int)] w fun e w' => ∃ m, m < 128 ∧ alikeTo key p.key m = true ∧ bitAt key m ≠ bitAt p.key m ∧ e = .returned (.tuple #[.string ⟨(hs.climb key p.beside d (hs.pair key m (lfOf key value) (lfOf p.key p.val) (d + p.beside.length))).toArray⟩, .int .i64 0]) ∧ Below w.heap.size w w' := by
  have hgood := Lib.hid (fun (W : World) (hb : Below w.heap.size w W) => pgood_any v p key d W (hv.old hb) hg)
  have hklen := hg.len
  have hpk := (hg.some ht).1
  have hroom := hg.room
  have hleaf := Lib.hid (fun (W : World) (hb : Below w.heap.size w W) => lfnode_any key value W (by omega) (by omega) (hK.old hb))
  have hleaf2 := Lib.hid (fun (W : World) (hb : Below w.heap.size w W) => lfnode_any p.key p.val W (by omega) (by omega) (hK.old hb))
  have hl1 := lfOf_length key value
  have hl2 := lfOf_length p.key p.val
  have hpair := Lib.hid (fun (W : World) (hb : Below w.heap.size w W) => ppair_any key p.key (lfOf key value) (lfOf p.key p.val) (d + p.beside.length) W hklen hpk (fun e => hne e.symm) (by omega) (by omega) (by omega) (hK.old hb))
  have hclimb := Lib.hid (fun (x : Tx) (hx : x.length ≤ 1000) (W : World) (hb : Below w.heap.size w W) => pclimb_any v p x key d W (hv.old hb) hg.small hx hg.len hg.dep (hK.old hb))
  have hple := Lib.hid (fun (m : Nat) => (upEmp_fin key m (d + p.beside.length) (lfOf key value) (lfOf p.key p.val)) ▸ upEmp_le key m (if bitAt key m = 1 then hs.jn (lfOf p.key p.val) (lfOf key value) else hs.jn (lfOf key value) (lfOf p.key p.val)) (by split <;> exact jn_le _ _ (by omega) (by omega)) (m - (d + p.beside.length)) (by omega))
  obtain ⟨a, c, rfl, hrow⟩ := hv
  obtain ⟨bs, there, pk, pv⟩ := p
  dsimp only at *
  subst ht
  rw [show ((d + bs.length : Nat) : Int) = (d : Int) + (bs.length : Int) from by omega] at hpair
  clear hg hrow hK hval hvl hl1 hl2
  generalize lfOf key value = L at hclimb hleaf hpair hple ⊢
  generalize lfOf pk pv = M at hleaf2 hpair hple ⊢
  generalize hlen : bs.length = len at hgood hclimb hpair hroom hple ⊢
  have hw : IntKind.i64.wrap ((d : Int) + (len : Int)) = (d : Int) + (len : Int) := by rw [IntKind.wrap_i64]; omega
  obtain ⟨W0, hW0⟩ : ∃ W0, W0 = w.alloc (.cells #[.slice a len c, .bool true, .string ⟨pk.toArray⟩, .string ⟨pv.toArray⟩] 51) := ⟨_, rfl⟩
  have hB0 : Below w.heap.size w W0 := by rw [hW0]; exact (Below.refl _ _).alloc (Nat.le_refl _) _
  have hl0 : w.heap.size < W0.heap.size := by rw [hW0]; simp
  have hrow0 : W0.heap[w.heap.size]? = some (.cells #[.slice a len c, .bool true, .string ⟨pk.toArray⟩, .string ⟨pv.toArray⟩] 51 (0, 0)) := by rw [hW0]; exact heap_alloc_new _ _
  have HC := Lib.hid (fun (W : World) (hb : Below W0.heap.size W0 W) => four_of_cells ((hb.block _ hl0).trans hrow0))
  have HB0 := Lib.hid hB0
  obtain ⟨x0, x1, x2, x3⟩ := HC.out W0 (Below.refl _ _)
  have hne1 : (pk == key) = false := by simpa using hne
  have hne2 : ((⟨pk.toArray⟩ : ByteArray).toList == (⟨key.toArray⟩ : ByteArray).toList) = false := by rw [ByteArray.toList_eq, ByteArray.toList_eq]; exact hne1
  have hne3 : ((⟨pk.toArray⟩ : ByteArray).toList != (⟨key.toArray⟩ : ByteArray).toList) = true := by rw [bne, hne2]; rfl
  have hne4 : (pk != key) = true := by rw [bne, hne1]; rfl
  clear hB0 hrow0 hlen
  go_enter Tryz.func50, Tryz.ntmps50
  go_wp2_with fail
  rw [← hW0]
  refine (hgood.out W0 HB0.out).mono ?_
  rintro e w1 ⟨rfl, hB1⟩
  obtain ⟨y0, y1, y2, y3⟩ := HC.out w1 hB1
  have hBw := HB0.out.trans (hB1.mono HB0.out.size)
  have hl1 := hleaf.out w1 hBw
  clear hgood hleaf x0 x1 x2 x3 hW0
  go_wp2_with fail
  refine hl1.mono ?_
  rintro e w2 ⟨rfl, hB2⟩
  have hB12 := hB1.trans (hB2.mono hB1.size)
  have hBw2 := hBw.trans (hB2.mono hBw.size)
  obtain ⟨z0, z1, z2, z3⟩ := HC.out w2 hB12
  clear y0 y1 y2 y3 hl1
  go_wp2_with fail
  have HKeep := Lib.hid (fun (W' : World) (hb : Below w2.heap.size w2 W') => (⟨(HC.out W' (hB12.trans (hb.mono hB12.size))).1, (HC.out W' (hB12.trans (hb.mono hB12.size))).2.1, (HC.out W' (hB12.trans (hb.mono hB12.size))).2.2.1, (HC.out W' (hB12.trans (hb.mono hB12.size))).2.2.2, hb⟩ : W'.cell? ⟨w.heap.size, 0, none⟩ = some (.slice a len c) ∧ W'.cell? ⟨w.heap.size, 1, none⟩ = some (.bool true) ∧ W'.cell? ⟨w.heap.size, 2, none⟩ = some (.string ⟨pk.toArray⟩) ∧ W'.cell? ⟨w.heap.size, 3, none⟩ = some (.string ⟨pv.toArray⟩) ∧ Below w2.heap.size w2 W'))
  have hS0 := Lib.hid (HKeep.out _ (Below.refl w2.heap.size w2).drew)
  have hS1 := Lib.hid (fun w5 (hb5 : Below w2.drew.heap.size w2.drew w5) => HKeep.out w5 (below_call0 hb5))
  have hS2 := Lib.hid (fun w5 w6 (hb5 : Below w2.drew.heap.size w2.drew w5) (hb6 : Below w5.heap.size w5 w6) => HKeep.out w6 ((below_call0 hb5).trans (hb6.mono (below_call0 hb5).size)))
  have c1 := Lib.hid (hleaf2.out w2.drew (hBw2.trans (Below.refl w.heap.size w2).drew))
  have c2 := Lib.hid (fun w5 (hb5 : Below w2.drew.heap.size w2.drew w5) => hpair.out w5 (hBw2.trans ((below_call0 hb5).mono hBw2.size)))
  clear hpair hleaf2 z0 z1 z2 z3
  go_region_held3 (fun W' => W'.cell? ⟨w.heap.size, 0, none⟩ = some (.slice a len c) ∧ W'.cell? ⟨w.heap.size, 1, none⟩ = some (.bool true) ∧ W'.cell? ⟨w.heap.size, 2, none⟩ = some (.string ⟨pk.toArray⟩) ∧ W'.cell? ⟨w.heap.size, 3, none⟩ = some (.string ⟨pv.toArray⟩) ∧ Below w2.heap.size w2 W') (first | exact hS0.out | exact hS2.out _ _ (by assumption) (by assumption) | exact hS1.out _ (by assumption)) (first | (go_at_call 94; with_reducible refine c1.out.mono ?_; rintro r w5 ⟨rfl, hb5⟩) | (go_at_call 96; with_reducible refine (c2.out _ (by assumption)).mono ?_; rintro r w6 ⟨m, hm1, hm2, hm3, rfl, hb6⟩))
  obtain ⟨q0, q1, q2, q3, hb7⟩ := hS2.out _ _ hb5 hb6
  have hBw6 := hBw2.trans (hb7.mono hBw2.size)
  have hc1 := hclimb.out _ (hple.out m) w6 hBw6
  have Hm := Lib.hid (And.intro hm1 (And.intro hm2 hm3))
  clear hclimb hple hm1 hm2 hm3
  generalize hN : hs.climb key bs d (hs.pair key m L M (d + len)) = N at hc1
  have HN := Lib.hid hN
  clear hN
  go_wp2_with fail
  refine hc1.mono ?_
  rintro e w7 ⟨rfl, hB7⟩
  go_wp2
  go_ret2
  exact ⟨m, Hm.out.1, Hm.out.2.1, Hm.out.2.2, by rw [HN.out]; rfl, hBw6.trans (hB7.mono hBw6.size)⟩

/-- After a put, whatever stands there. -/
theorem pafter_any (v : Value) (p : Pf) (key value : Tx) (d : Nat) (w : World) (hv : PfAt w v p) (hg : IsGood p key d) (hval : p.val.length ≤ 1000) (hvl : value.length ≤ 1000) (hK : Kon w) :
    Calls Tryz.prog 50 #[v, .string ⟨key.toArray⟩, .string ⟨value.toArray⟩, .int .i64 (d : Int)] w fun e w' => ∃ m, (p.there = true → alikeTo key p.key m = true) ∧ (p.there = true → p.key ≠ key → m < 128 ∧ bitAt key m ≠ bitAt p.key m) ∧ e = .returned (.tuple #[.string ⟨(afterOf p key value d m).toArray⟩, .int .i64 0]) ∧ Below w.heap.size w w' := by
  unfold afterOf
  by_cases h : p.there = true ∧ p.key ≠ key
  · refine (pafter_pair v p key value d w hv hg hval hvl hK h.1 h.2).mono ?_
    rintro e w' ⟨m, h1, h2, h3, rfl, hB⟩
    refine ⟨m, fun _ => h2, fun _ _ => ⟨h1, h3⟩, ?_, hB⟩
    rw [h.1, show (true && p.key != key) = true from by simpa using h.2, if_pos rfl]; rfl
  · have hc : (p.there && p.key != key) = false := by
      cases ht : p.there with
      | false => rfl
      | true =>
        have : p.key = key := Classical.byContradiction fun e => h ⟨ht, e⟩
        simp [this]
    refine (pafter_plain v p key value d w hv hg hval hvl hK hc).mono ?_
    rintro e w' ⟨rfl, hB⟩
    refine ⟨0, fun _ => rfl, fun ht hk => absurd ⟨ht, hk⟩ h, ?_, hB⟩
    rw [hc]; rfl

end Go.Proofs.YtcgkomafaepjnaaGreatDoor
namespace Go.Proofs.YtcgkomafaepjnaaGreatDoor
open Go.RowKit

/-- The public key as a value. -/
def pubV (o r : List UInt8) : Value := .agg #[.string ⟨o.toArray⟩, .string ⟨r.toArray⟩, .int .i64 0]
theorem xpublic_any (b : Nat) (seed : List UInt8) (w : World) (hk : KeyAt w b seed) :
    Calls Tryz.prog 63 #[.pointer (some ⟨b, 0, none⟩)] w fun e w' => e = .returned (pubV (openOf seed) (pubKey seed 0)) ∧ Below w.heap.size w w' := by
  obtain ⟨g, c, hk, hg, hc⟩ := hk
  have hlt : b < w.heap.size := (Array.getElem?_eq_some_iff.1 hk).1
  have x1 : ∀ o, (w.alloc o).cell? ⟨b, 1, none⟩ = some (.string ⟨(openOf seed).toArray⟩) := fun o => by
    rw [((Below.refl w.heap.size w).alloc (Nat.le_refl _) o).cell (p := ⟨b, 1, none⟩) hlt, cell_of_row _ _ 1 _ _ _ hk]; rfl
  have x2 : ∀ o, (w.alloc o).cell? ⟨b, 2, none⟩ = some (.string ⟨(pubKey seed 0).toArray⟩) := fun o => by
    rw [((Below.refl w.heap.size w).alloc (Nat.le_refl _) o).cell (p := ⟨b, 2, none⟩) hlt, cell_of_row _ _ 2 _ _ _ hk]; rfl
  have x3 : ∀ o, (w.alloc o).cell? ⟨b, 3, none⟩ = some (.int .i64 0) := fun o => by
    rw [((Below.refl w.heap.size w).alloc (Nat.le_refl _) o).cell (p := ⟨b, 3, none⟩) hlt, cell_of_row _ _ 3 _ _ _ hk]; rfl
  clear hk hc
  generalize openOf seed = o at x1 ⊢
  generalize pubKey seed 0 = r at x2 ⊢
  go_enter Tryz.func63, Tryz.ntmps63
  go_wp2
  refine bodyPost_ret (results_cell_row rfl _ _ w.heap.size 88 #[.string ⟨o.toArray⟩, .string ⟨r.toArray⟩, .int .i64 0] (0, 0) _ rfl (heap_alloc_new _ _) Tryz.underlying88 rfl (by kernel_rfl)) rfl ?_
  exact ⟨rfl, (Below.refl _ _).alloc (Nat.le_refl _) _⟩

theorem xcount_any (b : Nat) (seed : List UInt8) (w : World) (hk : KeyAt w b seed) :
    Calls Tryz.prog 130 #[.pointer (some ⟨b, 0, none⟩)] w fun e w' => e = .returned (.int .i64 1) ∧ w = w' := by
  obtain ⟨g, c, hk, hg, hc⟩ := hk
  have x4 : w.cell? ⟨b, 4, none⟩ = some (.slice (some ⟨g, 0, none⟩) 1 c) := by rw [cell_of_row _ _ 4 _ _ _ hk]; rfl
  clear hk hc
  go_enter Tryz.func130, Tryz.ntmps130
  go_wp2
  go_ret
  exact ⟨rfl, rfl⟩

/-- The digest of a message for the first index. -/
def digestOf (o : List UInt8) (m : List UInt8) : List UInt8 := tagOf 6 [o, [0, 0, 0, 0], m]
set_option maxRecDepth 100000 in
theorem digest_any (o m : ByteArray) (w : World) (ho : o.size ≤ 1000) (hm : m.size ≤ 1000) (hK : Kon w) :
    Calls Tryz.prog 132 #[.string o, .int .i64 0, .string m] w fun e w' => e = .returned (.string ⟨(digestOf o.data.toList m.data.toList).toArray⟩) ∧ Below w.heap.size w w' := by
  have HK := Lib.hid hK
  have hst : ∀ W : World, (convert 58 9 (.slice (some ⟨W.heap.size, 0, none⟩) 4 4)).run Tryz.prog (W.alloc (.cells #[.int .u8 0, .int .u8 0, .int .u8 0, .int .u8 0] 5)) = .ok (.string ⟨#[0, 0, 0, 0]⟩) (W.alloc (.cells #[.int .u8 0, .int .u8 0, .int .u8 0, .int .u8 0] 5)) := by
    intro W
    have e : (#[.int .u8 0, .int .u8 0, .int .u8 0, .int .u8 0] : Array Value) = (bytesV [0, 0, 0, 0]).toArray := rfl
    rw [e]
    exact run_string_block Tryz.underlying58 Tryz.underlying5 Tryz.underlying9 (heap_alloc_new W _) rfl
  have hb1 : Below w.heap.size w (w.alloc (.cells #[.int .u8 0, .int .u8 0, .int .u8 0, .int .u8 0] 5)) := (Below.refl _ _).alloc (Nat.le_refl _) _
  have hT0 := tagged_new 6 [o, ⟨#[0, 0, 0, 0]⟩, m] 3 rfl (w.alloc (.cells #[.int .u8 0, .int .u8 0, .int .u8 0, .int .u8 0] 5)) (by decide) (by decide) (by rw [tagIn_len]; simp; omega) (HK.out.old hb1)
  rw [show ([o, ⟨#[0, 0, 0, 0]⟩, m].map (·.data.toList)) = [o.data.toList, [0, 0, 0, 0], m.data.toList] from rfl, show (w.alloc (.cells #[.int .u8 0, .int .u8 0, .int .u8 0, .int .u8 0] 5)).heap.size = w.heap.size + 1 from by simp] at hT0
  have hT := Lib.hid hT0
  have hD : digestOf o.data.toList m.data.toList = tagOf 6 [o.data.toList, [0, 0, 0, 0], m.data.toList] := rfl
  rw [← hD] at hT
  clear hT0 hD
  generalize digestOf o.data.toList m.data.toList = D at hT ⊢
  clear hK
  go_enter Tryz.func132, Tryz.ntmps132
  go_wp2_with fail
  refine hT.out.mono ?_
  rintro e w' ⟨rfl, hb⟩
  go_wp2
  go_ret
  exact ⟨rfl, hb1.trans (hb.mono (Nat.le_succ _))⟩

theorem results_pair_row {fn : Func} {p u : Tmp} {ty : TypeId} (h : fn.results = #[.cell p ty, .tmp u]) (tmps : Array Value) (w : World) (g : Nat) (cs : Array Value)
    (hp : tmps.getD p undef = .pointer (some ⟨g, 0, none⟩)) (hl : (loadVar ty ⟨g, 0, none⟩).run Tryz.prog w = .ok (.agg cs) w) :
    (results fn tmps).run Tryz.prog w = .ok (.tuple #[.agg cs, tmps.getD u undef]) w := by
  rw [results_cell_tmp h, hp]
  simp [asAddr, hl, Result.andThen]

theorem keepG {W W' : World} {b i j : Nat} {x y : Value} (h : W.cell? ⟨b, i, none⟩ = some x) (h' : W.cell? ⟨b, j, none⟩ = some y) (hb : Below W.heap.size W W') (hlt : b < W.heap.size) : W'.cell? ⟨b, i, none⟩ = some x ∧ W'.cell? ⟨b, j, none⟩ = some y ∧ Below W.heap.size W W' :=
  ⟨(hb.cell (p := ⟨b, i, none⟩) hlt).trans h, (hb.cell (p := ⟨b, j, none⟩) hlt).trans h', hb⟩
/-- A signature as a value, its chains in the world. -/
def SigAt (w : World) (v : Value) (seed m : List UInt8) : Prop :=
  ∃ a c, v = .agg #[.int .i64 0, .slice a 35 c, .slice none 0 0] ∧ Cells w (.slice a 35 c) (txs (sigOf seed 0 (digs (digestOf (openOf seed) m)) 35))

set_option maxRecDepth 100000 in
set_option maxHeartbeats 4000000 in
theorem xsign_any (b : Nat) (seed : List UInt8) (m : ByteArray) (w : World) (hk : KeyAt w b seed) (hs : seed.length ≤ 1000) (hm : m.size ≤ 1000) (hK : Kon w) :
    Calls Tryz.prog 75 #[.pointer (some ⟨b, 0, none⟩), .int .i64 0, .string m] w fun e w' => ∃ v, e = .returned (.tuple #[v, .int .i64 0]) ∧ SigAt w' v seed m.data.toList ∧ Below w.heap.size w w' := by
  have HK := Lib.hid hK
  have HKey := Lib.hid hk
  clear hK hk
  go_enter Tryz.func75, Tryz.ntmps75
  go_wp2_with fail
  have hb1 : Below w.heap.size w (w.alloc (.cells #[.int .i64 0, .slice none 0 0, .slice none 0 0] 84)) := (Below.refl _ _).alloc (Nat.le_refl _) _
  have hr1 : (w.alloc (.cells #[.int .i64 0, .slice none 0 0, .slice none 0 0] 84)).heap[w.heap.size]? = some (.cells #[.int .i64 0, .slice none 0 0, .slice none 0 0] 84 (0, 0)) := heap_alloc_new _ _
  generalize (w.alloc (.cells #[.int .i64 0, .slice none 0 0, .slice none 0 0] 84)) = W1 at hb1 hr1 ⊢
  obtain ⟨g, c, hk, hg, hc⟩ := HKey.out
  have hlt : b < w.heap.size := (Array.getElem?_eq_some_iff.1 hk).1
  have hk1 := (hb1.block b hlt).trans hk
  have hKey1 : KeyAt W1 b seed := ⟨g, c, hk1, Nat.lt_of_lt_of_le hg hb1.size, (hb1.cell (p := ⟨g, 0, none⟩) hg).trans hc⟩
  refine (xcount_any b seed W1 hKey1).mono ?_
  rintro e w' ⟨rfl, rfl⟩
  have x0 : W1.cell? ⟨b, 0, none⟩ = some (.string ⟨seed.toArray⟩) := by rw [cell_of_row _ _ 0 _ _ _ hk1]; rfl
  have x1 : W1.cell? ⟨b, 1, none⟩ = some (.string ⟨(openOf seed).toArray⟩) := by rw [cell_of_row _ _ 1 _ _ _ hk1]; rfl
  have x4 : W1.cell? ⟨b, 4, none⟩ = some (.slice (some ⟨g, 0, none⟩) 1 c) := by rw [cell_of_row _ _ 4 _ _ _ hk1]; rfl
  have hol := openOf_length seed
  have hK1 := HK.out.old hb1
  go_wp2_with fail
  have hlt1 : b < W1.heap.size := Nat.lt_of_lt_of_le hlt hb1.size
  have sw1 := hb1.size
  have hdig := digest_any ⟨(openOf seed).toArray⟩ m W1.drew (by show (openOf seed).toArray.size ≤ 1000; simp [hol]) hm (hK1.old (below_drew W1))
  have hdl : ∀ x : List UInt8, (ByteArray.mk (digestOf (openOf seed) m.data.toList).toArray).size = 16 := fun _ => by show (digestOf (openOf seed) m.data.toList).toArray.size = 16; simp [digestOf, tagOf_length]
  have hsig := Lib.hid (fun (w5 : World) (hb5 : Below W1.drew.heap.size W1.drew w5) => wsign_any ⟨seed.toArray⟩ ⟨(digestOf (openOf seed) m.data.toList).toArray⟩ 0 w5 (by show seed.toArray.size ≤ 1000; simpa using hs) (hdl []) (by decide) (hK1.old (below_call hb5)))
  have hS0 := Lib.hid (keepG x0 x1 (below_drew W1) hlt1)
  have hS1 := Lib.hid (fun w5 (hb5 : Below W1.drew.heap.size W1.drew w5) => keepG x0 x1 (below_call hb5) hlt1)
  have hS2 := Lib.hid (fun w5 w6 (hb5 : Below W1.drew.heap.size W1.drew w5) (hb6 : Below w5.heap.size w5 w6) => keepG (W' := w6) x0 x1 ((below_call hb5).trans (hb6.mono (below_call hb5).size)) hlt1)
  clear hdl
  go_region_held3 (fun W => W.cell? ⟨b, 0, none⟩ = some (.string ⟨seed.toArray⟩) ∧ W.cell? ⟨b, 1, none⟩ = some (.string ⟨(openOf seed).toArray⟩) ∧ Below W1.heap.size W1 W) (first | exact hS0.out | exact hS2.out _ _ (by assumption) (by assumption) | exact hS1.out _ (by assumption)) (first | (go_at_call 132; refine hdig.mono ?_; rintro r w5 ⟨rfl, hb5⟩) | (go_at_call 131; refine (hsig.out _ (by assumption)).mono ?_; rintro r w6 ⟨vs, rfl, ho6, hb6⟩))
  have hb6s := hb6.size
  have hb6' := (below_call hb5).trans (hb6.mono (below_call hb5).size)
  have hr6 := (hb6'.block w.heap.size (Array.getElem?_eq_some_iff.1 hr1).1).trans hr1
  have y4 : w6.cell? ⟨b, 4, none⟩ = some (.slice (some ⟨g, 0, none⟩) 1 c) := (hb6'.cell (p := ⟨b, 4, none⟩) hlt1).trans x4
  have HC := Lib.hid (cells_of_own ho6)
  have hbs : ∀ j, (Value.ownBlock vs) = some j → w5.heap.size ≤ j := fun j hj => (ho6.lt j hj).1
  obtain ⟨av, cv, rfl⟩ := own_slice ho6
  have q0 : w6.cell? ⟨w.heap.size, 0, none⟩ = some (.int .i64 0) := by rw [cell_of_row _ _ 0 _ _ _ hr6]; rfl
  have q1 : w6.cell? ⟨w.heap.size, 1, none⟩ = some (.slice none 0 0) := by rw [cell_of_row _ _ 1 _ _ _ hr6]; rfl
  have q2 : w6.cell? ⟨w.heap.size, 2, none⟩ = some (.slice none 0 0) := by rw [cell_of_row _ _ 2 _ _ _ hr6]; rfl
  have f0 : w6.frozen? ⟨w.heap.size, 0, none⟩ = false := frozen_of_row _ _ 0 _ _ hr6
  have f1 : w6.frozen? ⟨w.heap.size, 1, none⟩ = false := frozen_of_row _ _ 1 _ _ hr6
  have f2 : w6.frozen? ⟨w.heap.size, 2, none⟩ = false := frozen_of_row _ _ 2 _ _ hr6
  have hw5 : w.heap.size < w5.heap.size := Nat.lt_of_lt_of_le (Array.getElem?_eq_some_iff.1 hr1).1 (below_call hb5).size
  have hr7 := heap_setCell_same _ w.heap.size 2 _ _ (.slice none 0 0) (heap_setCell_same _ w.heap.size 1 _ _ (.slice av 35 cv) (heap_setCell_same w6 w.heap.size 0 _ _ (.int .i64 0) hr6))
  clear hdig hsig hS0 hS1 hS2 hb6 hb5 x0 x1 x4 ho6 hKey1 hk1 hk hc
  go_wp2_with fail
  refine (mpath_one (some ⟨g, 0, none⟩) c w6).mono ?_
  rintro e w' ⟨rfl, rfl⟩
  go_wp2_with fail
  have hT : Touch (· = w.heap.size) w6 (((w6.setCell ⟨w.heap.size, 0, none⟩ (.int .i64 0)).setCell ⟨w.heap.size, 1, none⟩ (.slice av 35 cv)).setCell ⟨w.heap.size, 2, none⟩ (.slice none 0 0)) :=
    ((Touch.setCell (S := (· = w.heap.size)) w6 ⟨w.heap.size, 0, none⟩ _ rfl).trans (Touch.setCell (S := (· = w.heap.size)) _ ⟨w.heap.size, 1, none⟩ _ rfl)).trans (Touch.setCell (S := (· = w.heap.size)) _ ⟨w.heap.size, 2, none⟩ _ rfl)
  generalize (((w6.setCell ⟨w.heap.size, 0, none⟩ (.int .i64 0)).setCell ⟨w.heap.size, 1, none⟩ (.slice av 35 cv)).setCell ⟨w.heap.size, 2, none⟩ (.slice none 0 0)) = W8 at hT hr7 ⊢
  refine bodyPost_ret (results_pair_row rfl _ _ w.heap.size #[.int .i64 0, .slice av 35 cv, .slice none 0 0] rfl (run_loadVar_row W8 w.heap.size 84 84 _ (0, 0) _ hr7 Tryz.underlying84 rfl (by kernel_rfl))) rfl ?_
  refine ⟨_, rfl, ⟨av, cv, rfl, ?_⟩, (hb1.trans (hb6'.mono hb1.size)).trans (hT.below (fun i e => Nat.le_of_eq e.symm) (Nat.le_of_lt (Nat.lt_of_lt_of_le hw5 (Nat.le_trans hb6s (Nat.le_refl _)))))⟩
  have := hT.cells HC.out (fun k hk e => by have := hbs k hk; omega)
  exact this

end Go.Proofs.YtcgkomafaepjnaaGreatDoor
