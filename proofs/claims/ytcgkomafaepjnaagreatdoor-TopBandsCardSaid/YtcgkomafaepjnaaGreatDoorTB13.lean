/- plumbobtop.trees: a proof in a band: true. Conditions: none. | slices.Chunk of texts, two at a time, for every loop body that turns one box and what is new. Conditions: an even number of texts, at most sixteen. | Package trans: may. Conditions: keys of one band. | Package trans: the state of Make's loop: steps, each with the proof ahead of it. Conditions: none of a program's run. | Package trans: Make. Conditions: changes of one band, few and short. | Package trans: what Check finds at each step of a transition that was made. Conditions: none of a program's run. -/
import Derived.Test.YtcgkomafaepjnaaGreatDoorTB8
import Derived.Test.YtcgkomafaepjnaaGreatDoorTB9
import Derived.Test.YtcgkomafaepjnaaGreatDoorTB12
import Derived.Shelf.RegionOpen
namespace Go.Proofs.YtcgkomafaepjnaaGreatDoor
open Go.RowKit

theorem made_there {h : Hs} {val : Tx → Tx} {ks : List Tx} {key : Tx} {d n : Nat} {p : Pf} (hm : Made h val ks key d p n) (hk : key ∈ ks) : p.there = true ∧ p.key = key ∧ p.val = val key := by
  have hin : key ∈ under ks key (d + n) := mem_under.2 ⟨hk, alike_refl _ _⟩
  rcases hm.fin with ⟨e, _⟩ | ⟨k, e, h1, h2, h3⟩
  · rw [e] at hin; cases hin
  · rw [e, List.mem_singleton] at hin
    subst hin
    exact ⟨h1, h2, h3⟩
theorem made_root {val : Tx → Tx} {ks : List Tx} {key : Tx} {n : Nat} {p : Pf} (hm : Made hs val ks key 0 p n) : hs.at val ks [] 0 = hs.climb key p.beside 0 (hs.foot p) := by
  rw [hm.climb, at_root val ks key]

theorem tagged_one (tag : Nat) (a : ByteArray) (W : World) (htag : tag < 256) (ha : a.size ≤ 100000) (hK : Kon W) :
    Calls Tryz.prog 9 #[.int .u8 tag, .slice (some ⟨W.heap.size, 0, none⟩) 1 1] (W.alloc (.cells #[.string a] 9)) fun e w' => e = .returned (.string ⟨(tagOf tag [a.data.toList]).toArray⟩) ∧ Below W.heap.size W w' := by
  have h := tagged_new tag [a] 1 rfl W htag (by decide) (by rw [tagIn_len]; simp; omega) hK
  exact h

set_option maxRecDepth 100000 in
set_option maxHeartbeats 8000000 in
theorem trees_any (w : World) (hK : Kon w) :
    Calls Tryz.prog 6 #[] w fun e w' => e = .returned (.bool true) ∧ Below w.heap.size w w' := by
  have HK := Lib.hid hK
  clear hK
  have hkl : (tagOf 1 [[97]]).length = 16 := tagOf_length _ _
  go_enter Tryz.func6, Tryz.ntmps6
  go_wp2_with fail
  refine (tnew_any w).mono ?_
  rintro e w1 ⟨p, b, rfl, ht1, hp1, hb1, hB1⟩
  have htg := Lib.hid (tagged_one 1 ⟨#[97]⟩ w1 (by decide) (by decide) (HK.out.old hB1))
  have HT1 := Lib.hid ht1
  have hl1 := ht1.lt
  clear ht1
  go_wp2_with fail
  refine htg.out.mono ?_
  rintro e w2 ⟨rfl, hB2⟩
  clear htg
  have hB12 := hB1.trans (hB2.mono hB1.size)
  generalize hkk : tagOf 1 [(ByteArray.mk #[97]).data.toList] = k
  have hk16 : k.length = 16 := by rw [← hkk]; exact tagOf_length _ _
  clear hkk
  have hput := Lib.hid (tput_any p b [] ⟨k.toArray⟩ ⟨#[118]⟩ w2 (HT1.out.old hB2) (by show k.toArray.size = 16; rw [List.size_toArray, hk16]) (by decide) (by decide))
  go_wp2_with fail
  refine hput.out.mono ?_
  rintro e w3 ⟨rfl, ht3, hT3⟩
  clear hput
  have hB3 : Below w.heap.size w w3 := hB12.trans (hT3.below (B := w.heap.size) (by rintro i rfl; exact hb1) hB12.size)
  have ht3 : TreeAt w3 p b [(k, [118])] := ht3
  obtain ⟨m, hm⟩ : ∃ m : Puts, m = [(k, [118])] := ⟨_, rfl⟩
  rw [← hm] at ht3
  have hval : valOf m k = [118] := by rw [hm]; exact valOf_put_same _ _ _
  have hin : k ∈ keysOf m := by rw [hm]; exact (keysOf_put _ _ _ _).2 (.inl rfl)
  have hkeys := keys_keysOf (m := m) fun q hq => (ht3.small q hq).1
  have hpr := Lib.hid (pprove_any p b m k 0 w3 ht3 (HK.out.old hB3) hk16 (by decide))
  have HT3 := Lib.hid ht3
  have hl3 := ht3.lt
  clear ht3 hT3 hm
  go_wp2_with fail
  refine hpr.out.mono ?_
  rintro e w4 ⟨a, c, pf, n, rfl, hr4, hmade, hB4, hl4⟩
  clear hpr
  obtain ⟨hth, hpk, hpv⟩ := made_there hmade hin
  have hgood := hmade.good hkeys
  rw [hval] at hpv
  have hroot := made_root hmade
  obtain ⟨bs, th, pk, pv⟩ := pf
  dsimp only at *
  subst hth hpk hpv
  have hBw4 := hB3.trans (hB4.mono hB3.size)
  have hof := Lib.hid (fun W => bof_any ⟨pk.toArray⟩ 2 W (by show pk.toArray.size = 16; rw [List.size_toArray, hk16]) (by decide))
  obtain ⟨len, hlen⟩ : ∃ len, bs.length = len := ⟨_, rfl⟩
  obtain ⟨W5, hW5⟩ : ∃ W5, W5 = w4.alloc (.cells #[.slice a len c, .bool true, .string ⟨pk.toArray⟩, .string ⟨#[118]⟩] 51) := ⟨_, rfl⟩
  have hB5 : Below w4.heap.size w4 W5 := by rw [hW5]; exact (Below.refl _ _).alloc (Nat.le_refl _) _
  have hrow5 : W5.heap[w4.heap.size]? = some (.cells #[.slice a len c, .bool true, .string ⟨pk.toArray⟩, .string ⟨#[118]⟩] 51 (0, 0)) := by rw [hW5]; exact heap_alloc_new _ _
  have hBw5 := hBw4.trans (hB5.mono hBw4.size)
  have hl5 : w4.heap.size < W5.heap.size := by rw [hW5]; simp
  have hv5 : PfAt W5 (.agg #[.slice a len c, .bool true, .string ⟨pk.toArray⟩, .string ⟨#[118]⟩]) ⟨bs, true, pk, [118]⟩ := ⟨a, c, by rw [← hlen], hr4.old hB5⟩
  -- the calls of the last region
  have cS := Lib.hid (signs_any W5.drew (HK.out.old (hBw5.trans (Below.refl w.heap.size W5).drew)))
  have cR := Lib.hid (fun (W : World) (hb : Below W5.heap.size W5 W) => troot_any p b m W ((HT3.out.old hB4).old hB5 |>.old hb) ((HK.out.old hBw5).old hb))
  rw [hroot] at cR
  have cH : Hid (∀ (W : World), Below W5.heap.size W5 W → Calls Tryz.prog 20 #[.agg #[.slice a len c, .bool true, .string ⟨pk.toArray⟩, .string ⟨#[118]⟩], .string ⟨(hs.climb pk bs 0 (hs.foot ⟨bs, true, pk, [118]⟩)).toArray⟩, .string ⟨pk.toArray⟩, .string ⟨#[118]⟩, .int .i64 0] W fun e w' => e = .returned (.bool true) ∧ Below W.heap.size W w') := Lib.hid (fun (W : World) (hb : Below W5.heap.size W5 W) => phas_any _ ⟨bs, true, pk, [118]⟩ pk 0 W (hv5.old hb) hgood (by show (1 : Nat) ≤ 1000; decide) ((HK.out.old hBw5).old hb) rfl rfl)
  have hb2 : bandI pk 2 = bandTo pk 2 := rfl
  have cB : Hid (∀ (W : World), Calls Tryz.prog 13 #[.string ⟨pk.toArray⟩, .int .i64 2] W fun e w' => e = .returned (.int .i64 (bandTo pk 2)) ∧ W = w') := Lib.hid (fun (W : World) => hb2 ▸ band_any ⟨pk.toArray⟩ 2 W (by show pk.toArray.size ≤ _; rw [List.size_toArray]; omega))
  rw [hlen]
  have HROW := Lib.hid hrow5
  clear hroot hmade hin hkeys hr4 hv5 hgood hrow5
  generalize hs.climb pk bs 0 (hs.foot ⟨bs, true, pk, [118]⟩) = NN at cR cH
  go_wp2_with fail
  rw [← hW5]
  refine (hof.out W5).mono ?_
  rintro e w6 ⟨rfl, rfl⟩
  clear hof hW5
  have HKeep := Lib.hid (fun (W' : World) (hb : Below w6.heap.size w6 W') => (by
    obtain ⟨q0, q1, q2, q3⟩ := four_of_cells ((hb.block _ hl5).trans HROW.out)
    exact ⟨q0, q1, q2, q3, hb⟩ : W'.cell? ⟨w4.heap.size, 0, none⟩ = some (.slice a len c) ∧ W'.cell? ⟨w4.heap.size, 1, none⟩ = some (.bool true) ∧ W'.cell? ⟨w4.heap.size, 2, none⟩ = some (.string ⟨pk.toArray⟩) ∧ W'.cell? ⟨w4.heap.size, 3, none⟩ = some (.string ⟨#[118]⟩) ∧ Below w6.heap.size w6 W'))
  have hS0 := Lib.hid (HKeep.out _ (Below.refl w6.heap.size w6).drew)
  have b1 := Lib.hid (fun w7 (h7 : Below w6.drew.heap.size w6.drew w7) => below_call0 h7)
  have b2 := Lib.hid (fun w7 w8 (h7 : Below w6.drew.heap.size w6.drew w7) (h8 : Below w7.heap.size w7 w8) => (below_call0 h7).trans (h8.mono (below_call0 h7).size))
  have b3 := Lib.hid (fun w7 w8 w9 (h7 : Below w6.drew.heap.size w6.drew w7) (h8 : Below w7.heap.size w7 w8) (h9 : Below w8.heap.size w8 w9) => (b2.out w7 w8 h7 h8).trans (h9.mono (b2.out w7 w8 h7 h8).size))
  have hS1 := Lib.hid (fun w7 (h7 : Below w6.drew.heap.size w6.drew w7) => HKeep.out w7 (b1.out w7 h7))
  have hS2 := Lib.hid (fun w7 w8 (h7 : Below w6.drew.heap.size w6.drew w7) (h8 : Below w7.heap.size w7 w8) => HKeep.out w8 (b2.out w7 w8 h7 h8))
  have hS3 := Lib.hid (fun w7 w8 w9 (h7 : Below w6.drew.heap.size w6.drew w7) (h8 : Below w7.heap.size w7 w8) (h9 : Below w8.heap.size w8 w9) => HKeep.out w9 (b3.out w7 w8 w9 h7 h8 h9))
  go_wp2_with fail
  go_region_held3 (fun W' => W'.cell? ⟨w4.heap.size, 0, none⟩ = some (.slice a len c) ∧ W'.cell? ⟨w4.heap.size, 1, none⟩ = some (.bool true) ∧ W'.cell? ⟨w4.heap.size, 2, none⟩ = some (.string ⟨pk.toArray⟩) ∧ W'.cell? ⟨w4.heap.size, 3, none⟩ = some (.string ⟨#[118]⟩) ∧ Below w6.heap.size w6 W') (first | exact hS0.out | exact hS3.out _ _ _ (by assumption) (by assumption) (by assumption) | exact hS2.out _ _ (by assumption) (by assumption) | exact hS1.out _ (by assumption))
    (first
      | (go_at_call 40; with_reducible refine cS.out.mono ?_; rintro r w7 ⟨rfl, hb7⟩)
      | (go_at_call 17; with_reducible refine (cR.out _ (b1.out _ (by assumption))).mono ?_; rintro r w8 ⟨rfl, hb8⟩)
      | (go_at_call 20; with_reducible refine (cH.out _ (b2.out _ _ (by assumption) (by assumption))).mono ?_; rintro r w9 ⟨rfl, hb9⟩)
      | (go_at_call 13; with_reducible refine (cB.out _).mono ?_; rintro r w10 ⟨rfl, rfl⟩))
  have hb := b3.out _ _ _ hb7 hb8 hb9
  go_wp2
  go_ret
  exact ⟨by simp, hBw5.trans (hb.mono hBw5.size)⟩

end Go.Proofs.YtcgkomafaepjnaaGreatDoor
namespace Go.Proofs.YtcgkomafaepjnaaGreatDoor
open Go.RowKit Go.Shelf

attribute [local go_sem] Oper.semAt_some

/-- What comes: the j-th pair of the block g, from o on. -/
def encP (g o : Nat) {n : Nat} (x : Fin n) : Array Value := #[.slice (some ⟨g, o + 2 * x.val, none⟩) 2 2]
theorem abides_drew {β : Type} {B : Nat} {J : β → World → Prop} (h : AbidesFrom B J) {s : β} {W : World} (hs : J s W) : J s W.drew :=
  h s W W.drew none hs ⟨rfl, rfl, rfl, Nat.le_refl _, fun _ _ _ => rfl⟩ (fun r e => by cases e)
/-- The j-th. -/
def finAt (n : Nat) (h : 0 < n) (j : Nat) : Fin n := ⟨j % n, Nat.mod_lt _ h⟩

set_option maxRecDepth 100000 in
set_option maxHeartbeats 4000000 in
theorem chunks1_in (n : Nat) (hn : 1 ≤ n) (l Bs Bn B5 n₀ g o c cap : Nat) (hc0 : 0 < c) (hc : c ≤ 8) (hcap : 2 * c ≤ cap) (hBsn : Bs < n₀) (hBs5 : Bs ≠ B5) (hBnn : Bn < n₀) (hBn5 : Bn ≠ B5) (J Jx : List (Fin c) → World → Prop) (B : Nat) (hJA : AbidesFrom B J)
    (hY : ∀ pre x W, J pre W → pre.length < c → YieldAt Fence.wide (n - 1) Tryz.prog l (encP g o x) W fun e W' =>
      (e = .returned (.bool true) ∧ J (pre ++ [x]) W' ∧ KpT B5 n₀ W W') ∨ (e = .returned (.bool false) ∧ Jx (pre ++ [x]) W'))
    (W : World) (hBs : W.cell? ⟨Bs, 0, none⟩ = some (.slice (some ⟨g, o, none⟩) (2 * c) cap)) (hBn : W.cell? ⟨Bn, 0, none⟩ = some (.int .i64 2)) (h0 : J [] W) :
    CallsIn Fence.wide n Tryz.prog 97 #[.func (.yield l) #[] #[], .pointer (some ⟨Bs, 0, none⟩), .pointer (some ⟨Bn, 0, none⟩)] W fun e W' => (∃ v, e = .returned v) ∧
      ((∃ ys, ys = uptoI (finAt c hc0) c ∧ J ys W') ∨ (∃ pre, True ∧ Jx pre W')) := by
  have hmx : Tryz.prog.follows .mixedOrders = true := by kernel_rfl
  refine callsIn_of_wp Tryz.func97 rfl trivial ?_ rfl
  simp only [Tryz.ntmps97, List.size_toArray, List.length_cons, List.length_nil, Nat.reduceAdd, Nat.reduceSub, Array.replicate_succ, Array.replicate_zero, List.push_toArray, List.append_toArray, List.nil_append, List.cons_append]
  gi_wp2
  gi_loopw [4, 5] (fun i _ wr => ∃ k : Nat, k ≤ c ∧ i = .int .i64 ((2 * k : Nat) : Int) ∧ J (uptoI (finAt c hc0) k) wr ∧ KpT B5 n₀ W wr)
    (fun i _ _ => 2 * c - (intOf i).toNat)
  case atStart => exact ⟨0, Nat.zero_le _, rfl, h0, Touch.refl _ _⟩
  case round =>
    obtain ⟨k, hk, rfl, hJs, hnx⟩ := hrel
    have hBx := hnx.cell hBsn hBs5 hBs
    have hBy := hnx.cell hBnn hBn5 hBn
    by_cases hlt : k < c
    · have hY1 := hY _ (finAt c hc0 k) wr.drew (abides_drew hJA hJs) (by rw [uptoI_length]; exact hlt)
      have eI : encP g o (finAt c hc0 k) = #[.slice (some ⟨g, o + 2 * k, none⟩) 2 2] := by
        unfold encP finAt
        dsimp only
        rw [Nat.mod_eq_of_lt hlt]
      rw [eI, ← uptoI_succ] at hY1
      have Hnx := Lib.hid hnx
      obtain ⟨j, hj⟩ : ∃ j, 2 * k = j := ⟨_, rfl⟩
      obtain ⟨len, hlen⟩ : ∃ len, 2 * c = len := ⟨_, rfl⟩
      rw [hlen] at hBx hcap
      rw [hj] at hY1 ⊢
      have hjl : j + 2 ≤ len := by omega
      have hlen16 : len ≤ 16 := by omega
      have hj0 : (0 : Int) ≤ (j : Int) := by omega
      have hj1 : (j : Int) < (len : Int) := by omega
      have hj2 : (j : Int) ≤ (len : Int) := by omega
      have hj3 : (j : Int) + 2 ≤ (cap : Int) := by omega
      have hj4 : (j : Int) + 2 ≤ (len : Int) := by omega
      have hm : min (2 : Int) (((len - j : Nat) : Int)) = 2 := by omega
      have hw : IntKind.i64.wrap ((j : Int) + 2) = (j : Int) + 2 := by rw [IntKind.wrap_i64]; omega
      clear hJs hY hnx
      gi_wp2_with fail
      gi_region_with_o (fail)
      all_goals
        have hBx' : wr.drew.cell? ⟨Bs, 0, none⟩ = _ := hBx
        have hBy' : wr.drew.cell? ⟨Bn, 0, none⟩ = _ := hBy
        have Hnx' : Hid (KpT B5 n₀ W wr.drew) := Lib.hid (Hnx.out.trans (Touch.drewN wr 1))
        clear hBx hBy Hnx
        obtain ⟨fn, tmps, assign, body, hy, hR⟩ := hY1
        generalize wr.drew = V at hBx' hBy' Hnx' hy hR ⊢
        gi_wp2
        refine hR.mono ?_
        rintro e W3 (⟨rfl, hJ3, hk3⟩ | ⟨rfl, hJx3⟩)
        · have hBy3 := hk3.cell hBnn hBn5 hBy'
          gi_wp2
          go_roundw
          case rel => exact ⟨k + 1, by omega, by rw [show 2 * (k + 1) = j + 2 from by omega]; go_num, hJ3, Hnx'.out.trans hk3⟩
          case measure => first | (simp [intOf]; done) | (simp [intOf]; omega)
        · gi_wp2
          refine bodyPost_ret (results_none rfl _ _ _) rfl ?_
          exact ⟨⟨_, rfl⟩, .inr ⟨_, trivial, hJx3⟩⟩
    · obtain rfl : k = c := by omega
      gi_wp2
      go_end0
      exact ⟨⟨_, rfl⟩, .inl ⟨_, rfl, hJs⟩⟩

end Go.Proofs.YtcgkomafaepjnaaGreatDoor
namespace Go.Proofs.YtcgkomafaepjnaaGreatDoor
open Go.RowKit

set_option maxRecDepth 100000 in
set_option maxHeartbeats 4000000 in
theorem may_any (b d : Nat) (a : Option Addr) (c n : Nat) (ks : List Tx) (w : World) (hn : ks.length = n) (hr : Keyrow w a c ks) (hd : d ≤ 3) (hb : b < 2 ^ d) (hfew : n ≤ 256) (h16 : ∀ k ∈ ks, k.length = 16) (hband : ∀ k ∈ ks, bandTo k d = b) :
    Calls Tryz.prog 47 #[.int .i64 (b : Int), .int .i64 (d : Int), .slice a n c] w fun e w' => e = .returned (.int .i64 0) ∧ w' = w := by
  have hcnt := Lib.hid (bcount_any d w hd)
  have hp0 : 0 < 2 ^ d := Nat.two_pow_pos d
  generalize 2 ^ d = m at hcnt hp0 hb
  have hcell : Hid (∀ k, k < n → ∃ g o, a = some ⟨g, o, none⟩ ∧ ∃ t : ByteArray, w.cell? ⟨g, o + k, none⟩ = some (.string t) ∧ Hid (Calls Tryz.prog 39 #[.string t, .int .i64 (d : Int)] w fun e w' => e = .returned (.tuple #[.int .i64 (b : Int), .int .i64 0]) ∧ w' = w)) := Lib.hid (by
    intro k hk
    obtain ⟨g, o, e, _, hc⟩ := hr.cell k (by omega)
    have hget : ks.getD k [] = ks[k] := by rw [List.getD_eq_getElem?_getD, List.getElem?_eq_getElem (by omega)]; rfl
    rw [hget] at hc
    have hof := bof_any ⟨(ks[k]).toArray⟩ d w (by show (ks[k]).toArray.size = 16; rw [List.size_toArray]; exact h16 _ (List.getElem_mem _)) hd
    have e2 : bandTo (ByteArray.mk (ks[k]).toArray).data.toList d = b := hband _ (List.getElem_mem _)
    rw [e2] at hof
    exact ⟨g, o, e, _, hc, Lib.hid hof⟩)
  have hm0 : ((m : Int) == 0) = false := by simp; omega
  have hbm : decide (m ≤ b) = false := by simp; omega
  have hbm2 : decide ((m : Int) ≤ (b : Int)) = false := by simp; omega
  have hb0 : decide ((b : Int) < 0) = false := by simp
  have hn256 : decide ((256 : Int) < (n : Int)) = false := by simp; omega
  clear hr h16 hband hn hp0
  go_enter Tryz.func47, Tryz.ntmps47
  go_wp2_with fail
  refine hcnt.out.mono ?_
  rintro e w' ⟨rfl, rfl⟩
  clear hcnt
  go_wp2_with fail
  go_loop [31] (fun i => ∃ k : Nat, k ≤ n ∧ i = .int .i64 k) (fun i => n - (intOf i).toNat)
  case atStart => exact ⟨0, Nat.zero_le _, rfl⟩
  case round =>
    obtain ⟨k, hk, rfl⟩ := hrel
    by_cases hkl : k < n
    · obtain ⟨g, o, rfl, t, hc, hof⟩ := hcell.out k hkl
      go_wp2_with fail
      refine hof.out.mono ?_
      rintro e w2 ⟨rfl, rfl⟩
      clear hof
      go_wp2
      go_round
      case rel => exact ⟨k + 1, by omega, by go_num⟩
      case measure => simp [intOf]; omega
    · obtain rfl : k = n := by omega
      go_wp2
      go_ret
      exact ⟨rfl, rfl⟩

end Go.Proofs.YtcgkomafaepjnaaGreatDoor
namespace Go.Proofs.YtcgkomafaepjnaaGreatDoor
open Go.RowKit

/-- A step, where its proof lies. -/
structure Stp where
  k : Tx
  v : Tx
  a : Option Addr
  c : Nat
  pf : Pf
  n : Nat
def Stp.cells (s : Stp) : List Value := [.string ⟨s.k.toArray⟩, .string ⟨s.v.toArray⟩, .slice s.a s.pf.beside.length s.c, .bool s.pf.there, .string ⟨s.pf.key.toArray⟩, .string ⟨s.pf.val.toArray⟩]
def stCells (l : List Stp) : List Value := l.flatMap Stp.cells
theorem stCells_snoc (l : List Stp) (s : Stp) : stCells (l ++ [s]) = stCells l ++ s.cells := by simp [stCells]
theorem stCells_length : ∀ l : List Stp, (stCells l).length = 6 * l.length
  | [] => rfl
  | s :: l => by
    have := stCells_length l
    unfold stCells at *
    rw [List.flatMap_cons, List.length_append, this]; simp [Stp.cells]; omega
theorem stCells_at : ∀ (l : List Stp) (j i : Nat) (hj : j < l.length), i < 6 → (stCells l)[j * 6 + i]? = (l[j]).cells[i]?
  | s :: l, 0, i, _, hi => by
    unfold stCells
    rw [List.flatMap_cons, List.getElem?_append_left (by simp [Stp.cells]; omega)]; simp
  | s :: l, j + 1, i, hj, hi => by
    have := stCells_at l j i (by simpa using hj) hi
    unfold stCells at *
    rw [List.flatMap_cons, List.getElem?_append_right (by simp [Stp.cells]; omega), show (j + 1) * 6 + i - s.cells.length = j * 6 + i from by simp [Stp.cells]; omega, this]; simp
/-- What the tree holds behind the steps. -/
def behind (m : Puts) (l : List Stp) : Puts := l.foldl (fun m s => (s.k, s.v) :: m) m
theorem behind_snoc (m : Puts) (l : List Stp) (s : Stp) : behind m (l ++ [s]) = (s.k, s.v) :: behind m l := by simp [behind]
theorem behind_eq (m : Puts) : ∀ l : List Stp, behind m l = (l.map fun s => (s.k, s.v)).reverse ++ m := by
  intro l
  induction l generalizing m with
  | nil => rfl
  | cons s l ih =>
    show behind ((s.k, s.v) :: m) l = _
    rw [ih, List.map_cons, List.reverse_cons, List.append_assoc]; rfl
/-- Each proof was made of the tree ahead of its step. -/
def Chained (d : Nat) : Puts → List Stp → Prop
  | _, [] => True
  | m, s :: l => Made hs (valOf m) (keysOf m) s.k d s.pf s.n ∧ Chained d ((s.k, s.v) :: m) l
theorem chained_snoc (d : Nat) (s : Stp) : ∀ (l : List Stp) (m : Puts), Chained d m l → Made hs (valOf (behind m l)) (keysOf (behind m l)) s.k d s.pf s.n → Chained d m (l ++ [s])
  | [], _, _, h => ⟨h, trivial⟩
  | _ :: l, _, hc, h => ⟨hc.1, chained_snoc d s l _ hc.2 h⟩
theorem chained_at (d : Nat) : ∀ (l : List Stp) (m : Puts), Chained d m l → ∀ j (hj : j < l.length), Made hs (valOf (behind m (l.take j))) (keysOf (behind m (l.take j))) (l[j]).k d (l[j]).pf (l[j]).n
  | s :: l, m, hc, 0, _ => hc.1
  | s :: l, m, hc, j + 1, hj => chained_at d l _ hc.2 j (by simpa using hj)

/-- Changes in a slice: two cells each. -/
structure Chrow (w : World) (a : Option Addr) (cs : Puts) : Prop where
  cell : ∀ k, k < cs.length → ∃ g o, a = some ⟨g, o, none⟩ ∧ g < w.heap.size ∧ w.cell? ⟨g, o + k * 2, none⟩ = some (.string ⟨((cs.getD k ([], [])).1).toArray⟩) ∧ w.cell? ⟨g, o + k * 2 + 1, none⟩ = some (.string ⟨((cs.getD k ([], [])).2).toArray⟩)
theorem Chrow.old {w w' : World} {a : Option Addr} {cs : Puts} (h : Chrow w a cs) (hb : Below w.heap.size w w') : Chrow w' a cs :=
  ⟨fun k hk => by
    obtain ⟨g, o, e, hg, h1, h2⟩ := h.cell k hk
    exact ⟨g, o, e, Nat.lt_of_lt_of_le hg hb.size, (hb.cell (p := ⟨g, o + k * 2, none⟩) hg).trans h1, (hb.cell (p := ⟨g, o + k * 2 + 1, none⟩) hg).trans h2⟩⟩

theorem Keyrow.touch' {S : Nat → Prop} {w w' : World} {a : Option Addr} {c : Nat} {ks : List Tx} (h : Keyrow w a c ks) (ht : Touch S w w') (hs : 0 < ks.length → ∀ g o, a = some ⟨g, o, none⟩ → ¬ S g) : Keyrow w' a c ks :=
  ⟨h.room, h.few, fun k hk => by
    obtain ⟨g, o, e, hg, hc⟩ := h.cell k hk
    refine ⟨g, o, e, Nat.lt_of_lt_of_le hg ht.size, ?_⟩
    rw [World.cell?_of_block (w := w) (w' := w') (a := ⟨g, o + k, none⟩) (ht.block g hg (hs (by omega) g o e))]; exact hc⟩

/-- Five cells of a boxed transition. -/
theorem five_of_cells {w : World} {b : Nat} {x0 x1 x2 x3 x4 : Value} {t : TypeId} (h : w.heap[b]? = some (.cells #[x0, x1, x2, x3, x4] t (0, 0))) :
    w.cell? ⟨b, 0, none⟩ = some x0 ∧ w.cell? ⟨b, 1, none⟩ = some x1 ∧ w.cell? ⟨b, 2, none⟩ = some x2 ∧ w.cell? ⟨b, 3, none⟩ = some x3 ∧ w.cell? ⟨b, 4, none⟩ = some x4 :=
  ⟨by rw [cell_of_row _ _ 0 _ _ _ h]; rfl, by rw [cell_of_row _ _ 1 _ _ _ h]; rfl, by rw [cell_of_row _ _ 2 _ _ _ h]; rfl, by rw [cell_of_row _ _ 3 _ _ _ h]; rfl, by rw [cell_of_row _ _ 4 _ _ _ h]; rfl⟩

/-- The state at the head of Make's loop: the transition's box, the steps, the tree. -/
structure MS (q p b bn d : Nat) (old : Tx) (m : Puts) (W4 W : World) (st : List Stp) (v : Value) : Prop where
  xq : W.heap[q]? = some (.cells #[.int .i64 (bn : Int), .int .i64 (d : Int), .string ⟨old.toArray⟩, .string ⟨#[]⟩, v] 41 (0, 0))
  own : W.ownsRow W4.heap.size 121 6 v st.length (stCells st)
  sep : ∀ s ∈ st, 0 < s.pf.beside.length → ∀ g o, s.a = some ⟨g, o, none⟩ → W4.heap.size ≤ g ∧ v.ownBlock ≠ some g
  rows : ∀ s ∈ st, Keyrow W s.a s.c s.pf.beside
  tree : TreeAt W p b (behind m st)
  chain : Chained d m st
  bel : Touch (fun i => i = q ∨ i = b) W4 W

theorem MS.mid {q p b bn d : Nat} {old : Tx} {m : Puts} {W4 W wb w6 : World} {st : List Stp} {v : Value} (h : MS q p b bn d old m W4 W st v) (hbq : b < q) (hpq : p < q) (hq4 : W4.heap.size = q + 1)
    (hBb : Below W.heap.size W wb) (o : Obj) (hg : (wb.alloc o).grownBy w6 v.ownBlock) (v' : Value) : 
    Touch (fun i => i = q ∨ v.ownBlock = some i) W (w6.setCell ⟨q, 4, none⟩ v') ∧ TreeAt (w6.setCell ⟨q, 4, none⟩ v') p b (behind m st) ∧ (w6.setCell ⟨q, 4, none⟩ v').heap[q]? = some (.cells #[.int .i64 (bn : Int), .int .i64 (d : Int), .string ⟨old.toArray⟩, .string ⟨#[]⟩, v'] 41 (0, 0)) ∧ w6.cell? ⟨q, 4, none⟩ = some v ∧ w6.frozen? ⟨q, 4, none⟩ = false := by
  have hno : ∀ g, v.ownBlock = some g → q < g := fun g hg => by have := (h.own.lt g hg).1; omega
  have T6 : Touch (fun i => v.ownBlock = some i) W w6 := (Touch.of_below (hBb.alloc hBb.size o) _).trans ((Touch.grown hg).mono (fun k hk => .inl hk.symm))
  have T7 : Touch (fun i => i = q ∨ v.ownBlock = some i) W (w6.setCell ⟨q, 4, none⟩ v') :=
    (T6.mono (fun k hk => .inl (.inr hk))).trans (Touch.setCell (S := fun i => i = q ∨ v.ownBlock = some i) w6 ⟨q, 4, none⟩ _ (.inl rfl))
  have x6 := T6.heap h.xq (fun e => by have := hno q e; omega)
  refine ⟨T7, h.tree.touch T7 ?_ ?_, heap_setCell_same w6 q 4 _ _ _ x6, by rw [cell_of_row _ _ 4 _ _ _ x6]; rfl, frozen_of_row _ _ 4 _ _ x6⟩
  · rintro (e | e)
    · omega
    · have := hno p e; omega
  · rintro (e | e)
    · omega
    · have := hno b e; omega

theorem MS.step {q p b bn d : Nat} {old : Tx} {m : Puts} {W4 W wb w6 w8 : World} {st : List Stp} {v : Value} (h : MS q p b bn d old m W4 W st v) (hbq : b < q) (hpq : p < q) (hq4 : W4.heap.size = q + 1)
    (hBb : Below W.heap.size W wb) (o : Obj) (hg : (wb.alloc o).grownBy w6 v.ownBlock) {gg cap2 : Nat} (s : Stp)
    (ho : w6.ownsRow W4.heap.size 121 6 (.slice (some ⟨gg, 0, none⟩) (st.length + 1) cap2) (st.length + 1) (stCells st ++ s.cells)) (hat : v.ownBlock = some gg ∨ gg = wb.heap.size + 1)
    (hrs : Keyrow wb s.a s.c s.pf.beside) (hsl : ∀ g o, s.a = some ⟨g, o, none⟩ → W.heap.size ≤ g) (hmade : Made hs (valOf (behind m st)) (keysOf (behind m st)) s.k d s.pf s.n)
    (ht8 : TreeAt w8 p b ((s.k, s.v) :: behind m st)) (hT8 : Touch (· = b) (w6.setCell ⟨q, 4, none⟩ (.slice (some ⟨gg, 0, none⟩) (st.length + 1) cap2)) w8) :
    MS q p b bn d old m W4 w8 (st ++ [s]) (.slice (some ⟨gg, 0, none⟩) (st.length + 1) cap2) := by
  obtain ⟨T7, _, x7, _, _⟩ := h.mid hbq hpq hq4 hBb o hg (.slice (some ⟨gg, 0, none⟩) (st.length + 1) cap2)
  have hno : ∀ g, v.ownBlock = some g → q < g ∧ g < W.heap.size := fun g hg => by have := h.own.lt g hg; omega
  have hgg := (ho.lt gg rfl).1
  have sB := hBb.size
  have s4 := h.bel.size
  have T8 : Touch (fun i => (i = q ∨ v.ownBlock = some i) ∨ i = b) W w8 := (T7.mono (fun k hk => .inl (.inl hk))).trans (hT8.mono (fun k hk => .inl (.inr hk)))
  -- behind wb
  have Tb : Touch (fun i => (i = q ∨ v.ownBlock = some i) ∨ i = b) wb w8 :=
    (((Touch.alloc wb o).trans ((Touch.grown hg).mono (fun k hk => .inl (.inl (.inr hk.symm))))).trans (Touch.setCell (S := fun i => (i = q ∨ v.ownBlock = some i) ∨ i = b) w6 ⟨q, 4, none⟩ _ (.inl (.inl rfl)))).trans (hT8.mono (fun k hk => .inl (.inr hk)))
  refine ⟨hT8.heap x7 (by omega), ?_, ?_, ?_, ?_, chained_snoc d s st m h.chain hmade, ?_⟩
  · rw [List.length_append, List.length_singleton, stCells_snoc]
    exact hT8.own ((Touch.setCell (S := (· = q)) w6 ⟨q, 4, none⟩ _ rfl).own ho (fun k hk => by injection hk with hk; have : k = gg := hk.symm; show ¬ k = q; omega)) (fun k hk => by injection hk with hk; have : k = gg := hk.symm; show ¬ k = b; omega)
  · intro t ht hl g o e
    rcases List.mem_append.1 ht with ht | ht
    · obtain ⟨h1, h2⟩ := h.sep t ht hl g o e
      refine ⟨h1, fun e2 => ?_⟩
      injection e2 with e2
      rcases hat with e3 | e3
      · exact h2 (by rw [e3]; exact congrArg some e2)
      · have := keyrow_lt (h.rows t ht) hl g o e
        have e2 : gg = g := e2
        omega
    · rw [List.mem_singleton] at ht
      subst ht
      have h1 := hsl g o e
      refine ⟨by omega, fun e2 => ?_⟩
      injection e2 with e2
      have e2 : gg = g := e2
      rcases hat with e3 | e3
      · have := hno gg e3; omega
      · have := keyrow_lt hrs hl g o e; omega
  · intro t ht
    rcases List.mem_append.1 ht with ht | ht
    · refine (h.rows t ht).touch' T8 (fun hl g o e => ?_)
      obtain ⟨h1, h2⟩ := h.sep t ht hl g o e
      rintro ((e2 | e2) | e2)
      · omega
      · exact h2 e2
      · omega
    · rw [List.mem_singleton] at ht
      subst ht
      refine hrs.touch' Tb (fun hl g o e => ?_)
      have h1 := hsl g o e
      rintro ((e2 | e2) | e2)
      · omega
      · have := hno g e2; omega
      · omega
  · rw [behind_snoc]; exact ht8
  · refine h.bel.then T8 ?_
    rintro i ((e | e) | e)
    · exact .inl (.inl e)
    · have := (h.own.lt i e).1; exact .inr this
    · exact .inl (.inr e)

end Go.Proofs.YtcgkomafaepjnaaGreatDoor
namespace Go.Proofs.YtcgkomafaepjnaaGreatDoor
open Go.RowKit

theorem Tryz.infoStep : (Tryz.prog.info? 121).map (fun i => (i.zero, i.size, i.bytes)) = some (some (.agg #[.string .empty, .string .empty, .slice none 0 0, .bool false, .string .empty, .string .empty]), 6, 96) := by kernel_rfl
theorem encStr_append (l r : List Tx) : (l ++ r).map encStr = l.map encStr ++ r.map encStr := List.map_append

set_option maxRecDepth 100000 in
set_option maxHeartbeats 8000000 in
theorem make_any (p b : Nat) (m : Puts) (bn d : Nat) (a : Option Addr) (c n : Nat) (cs : Puts) (w : World) (ht : TreeAt w p b m) (hK : Kon w) (hn : cs.length = n) (hr : Chrow w a cs) (hd : d ≤ 3) (hbn : bn < 2 ^ d) (hfew : n ≤ 8) (hm : m.length ≤ 100)
    (hcs : ∀ q ∈ cs, q.1.length = 16 ∧ q.2.length ≤ 1000 ∧ bandTo q.1 d = bn) :
    Calls Tryz.prog 14 #[.pointer (some ⟨p, 0, none⟩), .int .i64 (bn : Int), .int .i64 (d : Int), .slice a n c] w fun e w' => ∃ sa sc l p' b', e = .returned (.tuple #[.agg #[.int .i64 (bn : Int), .int .i64 (d : Int), .string ⟨(hs.at (valOf m) (keysOf m) (firstP bn d) d).toArray⟩, .string ⟨(hs.at (valOf (cs.reverse ++ m)) (keysOf (cs.reverse ++ m)) (firstP bn d) d).toArray⟩, .slice sa n sc], .pointer (some ⟨p', 0, none⟩), .int .i64 0]) ∧
      (∃ R, w'.ownsRow R 121 6 (.slice sa n sc) n (stCells l)) ∧ l.length = n ∧ (l.map fun s => (s.k, s.v)) = cs ∧ Chained d m l ∧ (∀ s ∈ l, Keyrow w' s.a s.c s.pf.beside) ∧ TreeAt w' p' b' (cs.reverse ++ m) ∧ Below w.heap.size w w' ∧ w.heap.size ≤ b' := by
  have hcell : Hid (∀ k, k < n → ∃ g o, a = some ⟨g, o, none⟩ ∧ g < w.heap.size ∧ ∃ kk vv : Tx, w.cell? ⟨g, o + k * 2, none⟩ = some (.string ⟨kk.toArray⟩) ∧ w.cell? ⟨g, o + k * 2 + 1, none⟩ = some (.string ⟨vv.toArray⟩) ∧ cs.take (k + 1) = cs.take k ++ [(kk, vv)] ∧ kk.length = 16 ∧ vv.length ≤ 1000 ∧ bandTo kk d = bn) := Lib.hid (by
    intro k hk
    obtain ⟨g, o, e, hg, h1, h2⟩ := hr.cell k (by omega)
    have hkl : k < cs.length := by omega
    have hget : cs.getD k ([], []) = cs[k] := by rw [List.getD_eq_getElem?_getD, List.getElem?_eq_getElem hkl]; rfl
    rw [hget] at h1 h2
    obtain ⟨x1, x2, x3⟩ := hcs cs[k] (List.getElem_mem hkl)
    exact ⟨g, o, e, hg, (cs[k]).1, (cs[k]).2, h1, h2, by rw [List.take_succ_eq_append_getElem hkl], x1, x2, x3⟩)
  have HT := Lib.hid ht
  have HK := Lib.hid hK
  obtain ⟨W0, hW0⟩ : ∃ W0, W0 = w.alloc (.cells #[.int .i64 0, .int .i64 0, .string ⟨#[]⟩, .string ⟨#[]⟩, .slice none 0 0] 41) := ⟨_, rfl⟩
  have hB0 : Below w.heap.size w W0 := by rw [hW0]; exact (Below.refl _ _).alloc (Nat.le_refl _) _
  clear ht hK hr
  go_enter Tryz.func14, Tryz.ntmps14
  go_wp2_with fail
  rw [← hW0]
  go_loopw [11, 24] (fun v i W => ∃ k : Nat, k ≤ n ∧ i = .int .i64 k ∧ W.ownsRow W0.heap.size 9 1 v k (((cs.take k).map (·.1)).map encStr) ∧ Below W0.heap.size W0 W) (fun _ i _ => n - (intOf i).toNat)
  case atStart => exact ⟨0, Nat.zero_le _, rfl, World.ownsRow_nil _ _ _ _, Below.refl _ _⟩
  case round =>
    obtain ⟨k, hk, rfl, hown, hb⟩ := hrel
    have sz := hb.size
    have Hown := Lib.hid hown
    obtain ⟨av, cv, rfl⟩ := own_slice hown
    clear hown
    by_cases hkl : k < n
    · obtain ⟨g, o, rfl, hg, kk, vv, h1, h2, htk, x1, x2, x3⟩ := hcell.out k hkl
      have h1 := ((hB0.trans (hb.mono hB0.size)).cell (p := ⟨g, o + k * 2, none⟩) hg).trans h1
      have h2 := ((hB0.trans (hb.mono hB0.size)).cell (p := ⟨g, o + k * 2 + 1, none⟩) hg).trans h2
      have Htk := Lib.hid htk
      clear x1 x2 x3 htk
      go_wp2_with (at_builtin; refine Hid.out ?_)
      unfold Hid
      obtain ⟨wa, hwa⟩ : ∃ wa, wa = wr.alloc (.cells #[.string ⟨kk.toArray⟩, .string ⟨vv.toArray⟩] 38) := ⟨_, rfl⟩
      have hBa : Below wr.heap.size wr wa := by rw [hwa]; exact (Below.refl _ _).alloc (Nat.le_refl _) _
      have hba := hb.trans (hBa.mono sz)
      have hsa : wa.heap.size = wr.heap.size + 1 := by rw [hwa]; simp
      rw [← hwa]
      have hown3 : wa.ownsRow W0.heap.size 9 1 (.slice av k cv) k (((cs.take k).map (·.1)).map encStr) := (Touch.of_below hBa (fun _ => False)).own Hown.out (fun _ _ h => h)
      refine wpList_app1 rfl rfl Tryz.underlying31 Tryz.infoStr rfl hown3 rfl (by rw [hsa]; rfl) rfl (by omega) (by unfold maxLen; omega) hba.size ?_
      intro v4 w4 ho4 hg4
      have hb4 : Below W0.heap.size W0 w4 := hba.grown hg4 hba.size (fun j hj => (hown3.lt j hj).1)
      have ho4 : w4.ownsRow W0.heap.size 9 1 v4 (k + 1) (((cs.take (k + 1)).map (·.1)).map encStr) := by
        rw [Htk.out, List.map_append, encStr_append]; exact ho4
      obtain ⟨a4, c4, rfl⟩ := own_slice ho4
      have Ho4 := Lib.hid ho4
      clear hown3 hg4 h1 h2 hwa hba hBa ho4
      go_wp2
      go_roundw
      case rel => exact ⟨k + 1, by omega, by go_num, Ho4.out, hb4⟩
      case measure => simp [intOf]; omega
    · obtain rfl : k = n := by omega
      have eks : ((cs.take k).map (·.1)) = cs.map (·.1) := by rw [← hn, List.take_length]
      have hown1 := Hown.out
      rw [eks] at hown1
      obtain ⟨hkr, _⟩ := keyrow_of_own (ks := cs.map (·.1)) hown1 (by rw [List.length_map]; omega) (by rw [List.length_map]; exact hn.symm)
      have hmay := Lib.hid (may_any bn d av cv k (cs.map (·.1)) wr (by rw [List.length_map]; exact hn) hkr hd hbn (by omega) (fun x hx => by
        obtain ⟨q, hq, rfl⟩ := List.mem_map.1 hx
        exact (hcs q hq).1) (fun x hx => by
        obtain ⟨q, hq, rfl⟩ := List.mem_map.1 hx
        exact (hcs q hq).2.2))
      have hBw := hB0.trans (hb.mono hB0.size)
      have hfst := Lib.hid (firstP_of bn d (by omega) hbn ▸ first_any (bn : Int) (d : Int) wr)
      clear Hown hown1 hkr
      go_wp2_with fail
      refine hmay.out.mono ?_
      rintro e w' ⟨rfl, rfl⟩
      clear hmay
      go_wp2_with fail
      refine hfst.out.mono ?_
      rintro e w1 ⟨rfl, hB1⟩
      clear hfst
      have hBw1 := hBw.trans (hB1.mono hBw.size)
      have hcopy := Lib.hid (tcopy_any p b m w1 (HT.out.old hBw1))
      go_wp2_with fail
      refine hcopy.out.mono ?_
      rintro e w2 ⟨p', b', rfl, ht2, hp2, hb2, hB2⟩
      clear hcopy
      have hBw2 := hBw1.trans (hB2.mono hBw1.size)
      have hat := Lib.hid (tat_any p b m (firstP bn d) d w2 (HT.out.old hBw2) (HK.out.old hBw2) (by rw [firstP_length]; decide) (by omega))
      have HT2 := Lib.hid ht2
      have hl2 := ht2.lt
      have s1 := hBw1.size
      clear ht2
      go_wp2_with fail
      refine hat.out.mono ?_
      rintro e w3 ⟨rfl, hB3⟩
      clear hat
      have hBw3 := hBw2.trans (hB3.mono hBw2.size)
      have s3 := hB3.size
      generalize hold : hs.at (valOf m) (keysOf m) (firstP bn d) d = old
      obtain ⟨q, hq⟩ : ∃ q, w3.heap.size = q := ⟨_, rfl⟩
      obtain ⟨W4, hW4⟩ : ∃ W4, W4 = w3.alloc (.cells #[.int .i64 (bn : Int), .int .i64 (d : Int), .string ⟨old.toArray⟩, .string ⟨#[]⟩, .slice none 0 0] 41) := ⟨_, rfl⟩
      have hB4 : Below w3.heap.size w3 W4 := by rw [hW4]; exact (Below.refl _ _).alloc (Nat.le_refl _) _
      have hs4 : W4.heap.size = q + 1 := by rw [hW4]; simp [hq]
      have xq4 : W4.heap[q]? = some (.cells #[.int .i64 (bn : Int), .int .i64 (d : Int), .string ⟨old.toArray⟩, .string ⟨#[]⟩, .slice none 0 0] 41 (0, 0)) := by rw [hW4, ← hq]; exact heap_alloc_new _ _
      have hBw4 := hBw3.trans (hB4.mono hBw3.size)
      have hst : MS q p' b' bn d old m W4 W4 [] (.slice none 0 0) :=
        ⟨xq4, World.ownsRow_nil _ _ _ _, (by intro s hs; cases hs), (by intro s hs; cases hs), (HT2.out.old hB3).old hB4, trivial, Touch.refl _ _⟩
      have HST := Lib.hid hst
      have HB4 := Lib.hid hBw4
      have hb'q : b' < q := by omega
      have hp'q : p' < q := by omega
      have HOLD := Lib.hid hold
      have hw0 : W0.heap.size = w.heap.size + 1 := by rw [hW0]; simp
      have hbw : w.heap.size < b' := by have := hB1.size; omega
      have hqw : w.heap.size < q := by omega
      have hcr0 : W0.heap[w.heap.size]? = some (.cells #[.int .i64 0, .int .i64 0, .string ⟨#[]⟩, .string ⟨#[]⟩, .slice none 0 0] 41 (0, 0)) := by rw [hW0]; exact heap_alloc_new _ _
      have q1 := hB1.size
      have q2 := hB2.size
      have hcr4 := (hB4.block _ (by omega)).trans ((hB3.block _ (by omega)).trans ((hB2.block _ (by omega)).trans ((hB1.block _ (by omega)).trans ((hb.block _ (by omega)).trans hcr0))))
      have HCR4 := Lib.hid hcr4
      clear hst xq4 hold hB1 hB2 hB3 hB4 HT2 hBw1 hBw2 hBw3 hBw4 hcr0 hcr4 hBw hb hB0 hW0
      go_wp2_with fail
      rw [← hW4]
      clear hW4
      go_loopw [62] (fun i W => ∃ (st : List Stp) (v : Value), st.length ≤ k ∧ i = .int .i64 ((st.length : Nat) : Int) ∧ (st.map fun s => (s.k, s.v)) = cs.take st.length ∧ MS q p' b' bn d old m W4 W st v) (fun i _ => k - (intOf i).toNat)
      case atStart => exact ⟨[], _, Nat.zero_le _, rfl, rfl, HST.out⟩
      case round =>
        obtain ⟨st, v, hstk, rfl, hmap, hms⟩ := hrel
        obtain ⟨j, hj⟩ : ∃ j, st.length = j := ⟨_, rfl⟩
        have Hms := Lib.hid hms
        rw [hj] at hstk hmap ⊢
        have hBW : Below w.heap.size w wr := HB4.out.trans (hms.bel.below (B := w.heap.size) (by rintro i (rfl | rfl) <;> omega) HB4.out.size)
        have szW := hBW.size
        have hlen : st.length ≤ 8 := by omega
        by_cases hjk : j < k
        · obtain ⟨g, o, rfl, hg, kk, vv, h1, h2, htk, x1, x2, x3⟩ := hcell.out j hjk
          have h1 := (hBW.cell (p := ⟨g, o + j * 2, none⟩) hg).trans h1
          have h2 := (hBW.cell (p := ⟨g, o + j * 2 + 1, none⟩) hg).trans h2
          obtain ⟨wa, hwa⟩ : ∃ wa, wa = wr.alloc (.cells #[.string ⟨kk.toArray⟩, .string ⟨vv.toArray⟩] 38) := ⟨_, rfl⟩
          have hBa : Below wr.heap.size wr wa := by rw [hwa]; exact (Below.refl _ _).alloc (Nat.le_refl _) _
          have hsa : wa.heap.size = wr.heap.size + 1 := by rw [hwa]; simp
          have ca : wa.heap[wr.heap.size]? = some (.cells #[.string ⟨kk.toArray⟩, .string ⟨vv.toArray⟩] 38 (0, 0)) := by rw [hwa]; exact heap_alloc_new _ _
          have hBwa := hBW.trans (hBa.mono szW)
          have htree := hms.tree
          have hpr := Lib.hid (pprove_any p' b' (behind m st) kk d wa (htree.old hBa) (HK.out.old hBwa) x1 (by omega))
          have hbl : (behind m st).length ≤ 200 := by
            rw [behind_eq, List.length_append, List.length_reverse, List.length_map]; omega
          clear htree hms
          go_wp2_with fail
          rw [← hwa]
          refine hpr.out.mono ?_
          rintro e w5 ⟨pa, pc, pf, pn, rfl, hr5, hmade, hB5, hl5⟩
          clear hpr
          obtain ⟨sa, sc, rfl⟩ := own_slice Hms.out.own
          have hpv : pf.val.length ≤ 1000 := by
            rcases hmade.fin with ⟨_, _, _, e⟩ | ⟨_, _, _, _, e⟩
            · rw [e]; decide
            · rw [e]; exact valOf_length Hms.out.tree.small _
          obtain ⟨wb, hwb⟩ : ∃ wb, wb = w5.alloc (.cells #[.slice pa pf.beside.length pc, .bool pf.there, .string ⟨pf.key.toArray⟩, .string ⟨pf.val.toArray⟩] 51) := ⟨_, rfl⟩
          have hBb : Below w5.heap.size w5 wb := by rw [hwb]; exact (Below.refl _ _).alloc (Nat.le_refl _) _
          have cb : wb.heap[w5.heap.size]? = some (.cells #[.slice pa pf.beside.length pc, .bool pf.there, .string ⟨pf.key.toArray⟩, .string ⟨pf.val.toArray⟩] 51 (0, 0)) := by rw [hwb]; exact heap_alloc_new _ _
          have s5 := hB5.size
          have hBab : Below wa.heap.size wa wb := hB5.trans (hBb.mono s5)
          have hBrb : Below wr.heap.size wr wb := hBa.trans (hBab.mono hBa.size)
          have hBr5 : Below wr.heap.size wr w5 := hBa.trans (hB5.mono hBa.size)
          have ca5 := (hB5.block _ (by omega)).trans ca
          have cq5 := (hBr5.block q (Array.getElem?_eq_some_iff.1 Hms.out.xq).1).trans Hms.out.xq
          have hl5a := (Array.getElem?_eq_some_iff.1 ca5).1
          have hl5q := (Array.getElem?_eq_some_iff.1 cq5).1
          have y19 : ∀ o, (w5.alloc o).cell? ⟨wr.heap.size, 0, none⟩ = some (.string ⟨kk.toArray⟩) := fun o => by rw [cell_of_row _ _ 0 _ _ _ ((Below.heap_alloc w5 o _ hl5a).trans ca5)]; rfl
          have y19' : ∀ o, (w5.alloc o).cell? ⟨wr.heap.size, 1, none⟩ = some (.string ⟨vv.toArray⟩) := fun o => by rw [cell_of_row _ _ 1 _ _ _ ((Below.heap_alloc w5 o _ hl5a).trans ca5)]; rfl
          have yq4 : ∀ o, (w5.alloc o).cell? ⟨q, 4, none⟩ = some (.slice sa j sc) := fun o => by rw [cell_of_row _ _ 4 _ _ _ ((Below.heap_alloc w5 o _ hl5q).trans cq5), ← hj]; rfl
          have cab := (hBab.block _ (by omega)).trans ca
          have hrb := hr5.old hBb
          have Hrest := Lib.hid (And.intro hrb (And.intro hl5 hmade))
          have Hpv := Lib.hid hpv
          obtain ⟨pb, pth, pk, pv⟩ := pf
          dsimp only at *
          generalize hpl : pb.length = pl at *
          clear hr5 hl5 hmade hB5 hBb hrb hpv ca cb h1 h2 hBa hwa hBr5 ca5 cq5
          go_wp2_with (at_builtin; refine Hid.out ?_)
          unfold Hid
          have hsb : wb.heap.size = w5.heap.size + 1 := by rw [hwb]; simp
          rw [← hwb]
          obtain ⟨snew, hsn⟩ : ∃ snew : Stp, snew = ⟨kk, vv, pa, pc, ⟨pb, pth, pk, pv⟩, pn⟩ := ⟨_, rfl⟩
          have hsc : snew.cells = [.string ⟨kk.toArray⟩, .string ⟨vv.toArray⟩, .slice pa pl pc, .bool pth, .string ⟨pk.toArray⟩, .string ⟨pv.toArray⟩] := by rw [hsn, ← hpl]; rfl
          have hownb : wb.ownsRow W4.heap.size 121 6 (.slice sa j sc) j (stCells st) := by
            have := (Touch.of_below hBrb (fun _ => False)).own Hms.out.own (fun _ _ h => h)
            rw [hj] at this; exact this
          obtain ⟨i0, hinf, hz0, hz1, hz2⟩ := info_parts Tryz.infoStep
          have hs4r : W4.heap.size ≤ wr.heap.size := Hms.out.bel.size
          have hsrb := hBrb.size
          refine wpList_append_lies _ rfl _ _ _ rfl W4.heap.size 121 i0 _ 6 96 Tryz.underlying39 hinf hz0 hz1 hz2 rfl (by decide) (.slice sa j sc) j (stCells st) rfl (hownb.alloc _) ⟨wb.heap.size, 0, none⟩ 1 1 [.string ⟨kk.toArray⟩, .string ⟨vv.toArray⟩, .slice pa pl pc, .bool pth, .string ⟨pk.toArray⟩, .string ⟨pv.toArray⟩] (by rw [hsb]; rfl) rfl (World.news_of_block (cs := #[.string ⟨kk.toArray⟩, .string ⟨vv.toArray⟩, .slice pa pl pc, .bool pth, .string ⟨pk.toArray⟩, .string ⟨pv.toArray⟩]) (t := 121) (fr := (0, 0)) (heap_alloc_new wb _)) (by simp [Value.oneCell']) (by decide) (by unfold maxLen; omega) (by omega) (by simp; omega) (wb.heap.size + 1) (by simp) ?_
          intro gg cap2 w6 ho6 hg6 hat6 hlt6
          have Hms2 : Hid (MS q p' b' bn d old m W4 wr st (.slice sa j sc)) := Lib.hid (by have := Hms.out; rw [hj] at this; exact this)
          obtain ⟨T7, ht7, x7, yq6, fq6⟩ := Hms2.out.mid hb'q hp'q hs4 hBrb _ hg6 (.slice (some ⟨gg, 0, none⟩) (j + 1) cap2)
          have h19 : ∀ i, i = wr.heap.size → ¬ (i = q ∨ (Value.slice sa j sc).ownBlock = some i) := by
            rintro i rfl (e | e)
            · omega
            · have := (Hms2.out.own.lt _ e).2; omega
          -- the change's box stands behind the store
          have T67 : Touch (fun i => i = q ∨ (Value.slice sa j sc).ownBlock = some i) wb (w6.setCell ⟨q, 4, none⟩ (.slice (some ⟨gg, 0, none⟩) (j + 1) cap2)) :=
            (((Touch.alloc wb _).trans ((Touch.grown hg6).mono (fun k hk => .inl (.inr hk.symm))))).trans (Touch.setCell (S := fun i => i = q ∨ (Value.slice sa j sc).ownBlock = some i) w6 ⟨q, 4, none⟩ _ (.inl rfl))
          have c7 := T67.heap cab (h19 _ rfl)
          have z0 := cell_of_row _ _ 0 _ _ _ c7
          have z1 := cell_of_row _ _ 1 _ _ _ c7
          change _ = some (Value.string ⟨kk.toArray⟩) at z0
          change _ = some (Value.string ⟨vv.toArray⟩) at z1
          have hput := Lib.hid (tput_any p' b' (behind m st) ⟨kk.toArray⟩ ⟨vv.toArray⟩ (w6.setCell ⟨q, 4, none⟩ (.slice (some ⟨gg, 0, none⟩) (j + 1) cap2)) ht7 (by show kk.toArray.size = 16; rw [List.size_toArray, x1]) (by show vv.toArray.size ≤ 1000; rw [List.size_toArray]; exact x2) (by omega))
          have Ho6 := Lib.hid (And.intro ho6 (And.intro hg6 hat6))
          clear T7 ht7 x7 T67 c7 ho6 hg6 hat6 hownb hinf hz0 hz1 hz2 h19 y19 y19' yq4 cab x1 x2
          go_wp2_with fail
          refine hput.out.mono ?_
          rintro e8 w8 ⟨rfl, ht8, hT8⟩
          have hmsn : Hid (MS q p' b' bn d old m W4 w8 (st ++ [snew]) (.slice (some ⟨gg, 0, none⟩) (j + 1) cap2)) := Lib.hid (by
            have := Hms2.out.step hb'q hp'q hs4 hBrb _ Ho6.out.2.1 (gg := gg) (cap2 := cap2) snew (by rw [hj, hsc]; exact Ho6.out.1) Ho6.out.2.2 (by rw [hsn]; exact Hrest.out.1) (by rw [hsn]; intro g o e; have := Hrest.out.2.1 g o e; omega) (by rw [hsn]; exact Hrest.out.2.2) (by rw [hsn]; exact ht8) (by rw [hj]; exact hT8)
            rw [hj] at this; exact this)
          have hmapn : Hid (((st ++ [snew]).map fun s => (s.k, s.v)) = cs.take (j + 1)) := Lib.hid (by
            rw [List.map_append, hmap, htk, hsn]; rfl)
          have hlenn : (st ++ [snew]).length = j + 1 := by rw [List.length_append, hj]; rfl
          have Hlenn := Lib.hid hlenn
          clear hput ht8 hT8 hlenn z0 z1 yq6 fq6 hsc hwb
          go_wp2
          go_roundw
          case rel => exact ⟨st ++ [snew], _, by rw [Hlenn.out]; omega, by rw [Hlenn.out]; go_num, by rw [Hlenn.out]; exact hmapn.out, hmsn.out⟩
          case measure => simp [intOf]; omega
        · obtain rfl : j = k := by omega
          have hbeh : behind m st = cs.reverse ++ m := by
            rw [behind_eq, hmap, ← hn, List.take_length]
          have htree := hms.tree
          rw [hbeh] at htree
          obtain ⟨sa, sc, rfl⟩ := own_slice hms.own
          have hnew := Lib.hid (tat_any p' b' (cs.reverse ++ m) (firstP bn d) d wr htree (HK.out.old hBW) (by rw [firstP_length]; decide) (by omega))
          generalize hnn : hs.at (valOf (cs.reverse ++ m)) (keysOf (cs.reverse ++ m)) (firstP bn d) d = nw at hnew
          have HNN := Lib.hid hnn
          have HTr := Lib.hid htree
          have hcrW := hms.bel.heap HCR4.out (by rintro (e | e) <;> omega)
          have hxq := hms.xq
          have hlq := (Array.getElem?_eq_some_iff.1 hxq).1
          have hlw := (Array.getElem?_eq_some_iff.1 hcrW).1
          have s4 := hms.bel.size
          clear hnn htree hbeh hms
          rw [hj] at hxq
          go_wp2_with fail
          refine hnew.out.mono ?_
          rintro e5 w5 ⟨rfl, hB5⟩
          clear hnew
          have x5 := (hB5.block _ hlq).trans hxq
          have c5 := (hB5.block _ hlw).trans hcrW
          have f3 := frozen_of_row _ _ 3 _ _ x5
          have v3 := cell_of_row _ _ 3 _ _ _ x5
          change _ = some (Value.string ⟨#[]⟩) at v3
          have x6 := heap_setCell_same w5 q 3 _ _ (.string ⟨nw.toArray⟩) x5
          have T6 : Touch (· = q) w5 (w5.setCell ⟨q, 3, none⟩ (.string ⟨nw.toArray⟩)) := Touch.setCell (S := (· = q)) w5 ⟨q, 3, none⟩ _ rfl
          have c6 := T6.heap c5 (by omega)
          have fin5 := heap_setCell_same _ w.heap.size 4 _ _ (.slice sa j sc) (heap_setCell_same _ w.heap.size 3 _ _ (.string ⟨nw.toArray⟩) (heap_setCell_same _ w.heap.size 2 _ _ (.string ⟨old.toArray⟩) (heap_setCell_same _ w.heap.size 1 _ _ (.int .i64 (d : Int)) (heap_setCell_same _ w.heap.size 0 _ _ (.int .i64 (bn : Int)) c6))))
          have T7 : Touch (· = w.heap.size) (w5.setCell ⟨q, 3, none⟩ (.string ⟨nw.toArray⟩)) ((((((w5.setCell ⟨q, 3, none⟩ (.string ⟨nw.toArray⟩)).setCell ⟨w.heap.size, 0, none⟩ (.int .i64 (bn : Int))).setCell ⟨w.heap.size, 1, none⟩ (.int .i64 (d : Int))).setCell ⟨w.heap.size, 2, none⟩ (.string ⟨old.toArray⟩)).setCell ⟨w.heap.size, 3, none⟩ (.string ⟨nw.toArray⟩)).setCell ⟨w.heap.size, 4, none⟩ (.slice sa j sc)) :=
            ((((Touch.setCell (S := (· = w.heap.size)) _ ⟨w.heap.size, 0, none⟩ _ rfl).trans (Touch.setCell (S := (· = w.heap.size)) _ ⟨w.heap.size, 1, none⟩ _ rfl)).trans (Touch.setCell (S := (· = w.heap.size)) _ ⟨w.heap.size, 2, none⟩ _ rfl)).trans (Touch.setCell (S := (· = w.heap.size)) _ ⟨w.heap.size, 3, none⟩ _ rfl)).trans (Touch.setCell (S := (· = w.heap.size)) _ ⟨w.heap.size, 4, none⟩ _ rfl)
          have TA : Touch (fun i => i = q ∨ i = w.heap.size) wr ((((((w5.setCell ⟨q, 3, none⟩ (.string ⟨nw.toArray⟩)).setCell ⟨w.heap.size, 0, none⟩ (.int .i64 (bn : Int))).setCell ⟨w.heap.size, 1, none⟩ (.int .i64 (d : Int))).setCell ⟨w.heap.size, 2, none⟩ (.string ⟨old.toArray⟩)).setCell ⟨w.heap.size, 3, none⟩ (.string ⟨nw.toArray⟩)).setCell ⟨w.heap.size, 4, none⟩ (.slice sa j sc)) :=
            ((Touch.of_below hB5 _).trans (T6.mono (fun i h => .inl (.inl h)))).trans (T7.mono (fun i h => .inl (.inr h)))
          obtain ⟨y0, y1, y2, y3, y4⟩ := five_of_cells x5
          obtain ⟨r0, r1, r2, r3, r4⟩ := five_of_cells c5
          have g0 := frozen_of_row _ _ 0 _ _ c5
          have g1 := frozen_of_row _ _ 1 _ _ c5
          have g2 := frozen_of_row _ _ 2 _ _ c5
          have g3 := frozen_of_row _ _ 3 _ _ c5
          have g4 := frozen_of_row _ _ 4 _ _ c5
          have Fin5 := Lib.hid fin5
          have HTA := Lib.hid TA
          clear fin5 TA T7 T6 x6 c6 x5 c5 hxq hcrW v3
          go_wp2_with fail
          have hrow5 := Fin5.out
          have hTA := HTA.out
          generalize ((((((w5.setCell ⟨q, 3, none⟩ (.string ⟨nw.toArray⟩)).setCell ⟨w.heap.size, 0, none⟩ (.int .i64 (bn : Int))).setCell ⟨w.heap.size, 1, none⟩ (.int .i64 (d : Int))).setCell ⟨w.heap.size, 2, none⟩ (.string ⟨old.toArray⟩)).setCell ⟨w.heap.size, 3, none⟩ (.string ⟨nw.toArray⟩)).setCell ⟨w.heap.size, 4, none⟩ (.slice sa j sc)) = VF at hrow5 hTA ⊢
          have hrow5 : VF.heap[w.heap.size]? = some (.cells #[.int .i64 (bn : Int), .int .i64 (d : Int), .string ⟨old.toArray⟩, .string ⟨nw.toArray⟩, .slice sa j sc] 41 (0, 0)) := hrow5
          obtain ⟨p0, p1, p2, p3, p4⟩ := five_of_cells hrow5
          refine bodyPost_ret (v := .tuple #[.agg #[.int .i64 (bn : Int), .int .i64 (d : Int), .string ⟨old.toArray⟩, .string ⟨nw.toArray⟩, .slice sa j sc], .pointer (some ⟨p', 0, none⟩), .int .i64 0]) ?_ rfl ⟨sa, sc, st, p', b', ?_, ⟨W4.heap.size, ?_⟩, hj, ?_, Hms.out.chain, ?_, ?_, ?_, Nat.le_of_lt hbw⟩
          · simp [results, Tryz.f14, go_sem, p0, p1, p2, p3, p4]
          · rw [HOLD.out, HNN.out]
          · have hown := Hms.out.own
            rw [hj] at hown
            exact hTA.own hown (fun i hi => by have := (hown.lt i hi).1; rintro (e | e) <;> omega)
          · rw [hmap, ← hn, List.take_length]
          · intro s hs
            exact (Hms.out.rows s hs).touch' hTA (fun hl g o e => by have := (Hms.out.sep s hs hl g o e).1; rintro (e | e) <;> omega)
          · exact HTr.out.touch hTA (by rintro (e | e) <;> omega) (by rintro (e | e) <;> omega)
          · exact hBW.trans (hTA.below (B := w.heap.size) (by rintro i (rfl | rfl) <;> omega) szW)

end Go.Proofs.YtcgkomafaepjnaaGreatDoor
namespace Go.Proofs.YtcgkomafaepjnaaGreatDoor
open Go.RowKit

/-- The node ahead of the j-th step. -/
def nowAt (m : Puts) (l : List Stp) (bn d j : Nat) : Tx := hs.at (valOf (behind m (l.take j))) (keysOf (behind m (l.take j))) (firstP bn d) d

theorem behind_mem {m : Puts} {l : List Stp} {q : Tx × Tx} (h : q ∈ behind m l) : q ∈ (l.map fun s => (s.k, s.v)) ∨ q ∈ m := by
  rw [behind_eq, List.mem_append, List.mem_reverse] at h; exact h

theorem step_facts (m : Puts) (l : List Stp) (cs : Puts) (bn d j : Nat) (hd : d ≤ 16) (hbn : bn < 2 ^ d) (hl : (l.map fun s => (s.k, s.v)) = cs) (hc : Chained d m l) (hm : ∀ q ∈ m, q.1.length = 16 ∧ q.2.length ≤ 1000)
    (hcs : ∀ q ∈ cs, q.1.length = 16 ∧ q.2.length ≤ 1000 ∧ bandTo q.1 d = bn) (hj : j < l.length) :
    IsGood (l[j]).pf (l[j]).k d ∧ (l[j]).pf.val.length ≤ 1000 ∧ (l[j]).v.length ≤ 1000 ∧ (l[j]).k.length = 16 ∧ bandTo (l[j]).k d = bn ∧ hs.climb (l[j]).k (l[j]).pf.beside d (hs.foot (l[j]).pf) = nowAt m l bn d j ∧
    ∀ mm, ((l[j]).pf.there = true → alikeTo (l[j]).k (l[j]).pf.key mm = true) → ((l[j]).pf.there = true → (l[j]).pf.key ≠ (l[j]).k → mm < 128 ∧ bitAt (l[j]).k mm ≠ bitAt (l[j]).pf.key mm) → afterOf (l[j]).pf (l[j]).k (l[j]).v d mm = nowAt m l bn d (j + 1) := by
  have hmade := chained_at d l m hc j hj
  have hin : ((l[j]).k, (l[j]).v) ∈ cs := by rw [← hl]; exact List.mem_map.2 ⟨l[j], List.getElem_mem hj, rfl⟩
  obtain ⟨k16, vl, kb⟩ := hcs _ hin
  have all : ∀ i, ∀ q ∈ behind m (l.take i), q.1.length = 16 ∧ q.2.length ≤ 1000 := by
    intro i q hq
    rcases behind_mem hq with h | h
    · have : q ∈ cs := by
        rw [← hl]
        obtain ⟨s, hs', rfl⟩ := List.mem_map.1 h
        exact List.mem_map.2 ⟨s, List.mem_of_mem_take hs', rfl⟩
      exact ⟨(hcs q this).1, (hcs q this).2.1⟩
    · exact hm q h
  have hkeys := fun i => keys_keysOf (m := behind m (l.take i)) fun q hq => (all i q hq).1
  have hal : alikeTo (l[j]).k (firstP bn d) d = true := (firstP_alike _ bn d hd hbn).2 kb
  have hb1 : behind m (l.take (j + 1)) = ((l[j]).k, (l[j]).v) :: behind m (l.take j) := by
    rw [List.take_succ_eq_append_getElem hj, behind_snoc]
  refine ⟨hmade.good (hkeys j), ?_, vl, k16, kb, ?_, ?_⟩
  · rcases hmade.fin with ⟨_, _, _, e⟩ | ⟨_, _, _, _, e⟩
    · rw [e]; decide
    · rw [e]; exact valOf_length (all j) _
  · rw [hmade.climb]
    exact at_congr hs _ _ hal
  · intro mm h1 h2
    unfold nowAt
    rw [hb1, ← at_congr hs _ _ hal]
    have := hmade.after (val' := valOf (((l[j]).k, (l[j]).v) :: behind m (l.take j))) (ks' := keysOf (((l[j]).k, (l[j]).v) :: behind m (l.take j))) (hkeys j) (by rw [← hb1]; exact hkeys (j + 1))
      (fun k hk => by rw [keysOf_put]; exact ⟨.inr, fun h => h.resolve_left hk⟩) ((keysOf_put _ _ _ _).2 (.inl rfl)) (fun k hk => (valOf_put_other _ _ hk).symm) mm h1 h2
    rw [valOf_put_same] at this
    exact this

theorem nowAt_zero (m : Puts) (l : List Stp) (bn d : Nat) : nowAt m l bn d 0 = hs.at (valOf m) (keysOf m) (firstP bn d) d := rfl
theorem nowAt_end (m : Puts) (l : List Stp) (cs : Puts) (bn d n : Nat) (hn : l.length = n) (hl : (l.map fun s => (s.k, s.v)) = cs) : nowAt m l bn d n = hs.at (valOf (cs.reverse ++ m)) (keysOf (cs.reverse ++ m)) (firstP bn d) d := by
  unfold nowAt
  rw [← hn, List.take_length, behind_eq, hl]

theorem own_openedS {w : World} {base size : Nat} {e : TypeId} {v : Value} {n : Nat} {xs : List Value} (h : w.ownsRow base e size v n xs) (hn : n ≠ 0) :
    ∃ g c, v = .slice (some ⟨g, 0, none⟩) n c ∧ base ≤ g ∧ g < w.heap.size ∧ n ≤ c ∧ ∀ (j : Nat) x, xs[j]? = some x → w.cell? ⟨g, j, none⟩ = some x := by
  rcases h.2 with ⟨_, h0⟩ | ⟨g, cap, cur, rfl, hB, hg, hnc, _⟩
  · exact absurd h0 hn
  · refine ⟨g, cap, rfl, hB, (Array.getElem?_eq_some_iff.1 hg).1, hnc, fun j x hj => ?_⟩
    have := h.cells (g := g) rfl j x hj
    have hadd : (⟨g, 0, none⟩ : Addr).add j = ⟨g, j, none⟩ := by unfold Addr.add; split <;> simp_all
    rw [hadd] at this
    exact this
/-- The six cells of the j-th step. -/
theorem step_cells {w : World} {R n sc : Nat} {sa : Option Addr} {l : List Stp} (ho : w.ownsRow R 121 6 (.slice sa n sc) n (stCells l)) (hn : l.length = n) (j : Nat) (hj : j < l.length) :
    ∃ g, sa = some ⟨g, 0, none⟩ ∧ g < w.heap.size ∧ ∀ i, i < 6 → w.cell? ⟨g, j * 6 + i, none⟩ = (l[j]).cells[i]? := by
  obtain ⟨g, c, e, _, hg, _, hc⟩ := own_openedS ho (by omega)
  injection e with e1 _ e3
  subst e1
  refine ⟨g, rfl, hg, fun i hi => ?_⟩
  have h6 : i < (l[j]).cells.length := hi
  rw [List.getElem?_eq_getElem h6]
  exact hc (j * 6 + i) _ (by rw [stCells_at l j i hj hi, List.getElem?_eq_getElem h6])

end Go.Proofs.YtcgkomafaepjnaaGreatDoor
