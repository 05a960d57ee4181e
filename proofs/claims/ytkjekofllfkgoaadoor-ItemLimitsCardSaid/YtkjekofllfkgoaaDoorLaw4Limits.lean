/- plumboblaw04.ItemLimits: true, at whatever numbers. Conditions: strconv's table of powers holds what its initialiser lays. -/
import Derived.Test.YtkjekofllfkgoaaDoorItAll
import Derived.Laws.MakeOwn
import Derived.Deep.OwnRows
namespace Go.Proofs.YtkjekofllfkgoaaDoor
open Go.RowKit

theorem and15 (a : Int) : ∃ x : Nat, x ≤ 15 ∧ bits BinOp.and IntKind.i64 a 15 = (x : Int) := by
  refine ⟨(BitVec.ofInt 64 a &&& BitVec.ofInt 64 15).toNat, ?_, ?_⟩
  · rw [BitVec.toNat_and]
    exact Nat.and_le_right
  · have h : (BitVec.ofInt 64 a &&& BitVec.ofInt 64 15).toNat ≤ 15 := by
      rw [BitVec.toNat_and]
      exact Nat.and_le_right
    show IntKind.i64.wrap _ = _
    exact IntWalk.i64_in _ (by have : ((BitVec.ofInt 64 a &&& BitVec.ofInt 64 15).toNat : Int) ≤ 15 := by exact_mod_cast h
                               constructor
                               · exact Int.le_trans (by decide) (Int.natCast_nonneg _)
                               · exact Int.le_trans this (by decide))

theorem made_zeros (n : Nat) : madeCells #[.int .u8 0] n = (bytesV (List.replicate n 0)).toArray := by
  apply Array.ext'
  simp only [madeCells, bytesV]
  apply List.ext_getElem
  · simp
  · intro i h1 h2
    simp [Nat.mod_one]

/-- 'string(make([]byte, n))'. -/
theorem zeros_text (n : Nat) (w : World) : (convert 41 9 (.slice (some ⟨w.heap.size, 0, none⟩) n n)).run Tryd.prog (w.alloc (.cells (madeCells #[.int .u8 0] n) 5)) = .ok (.string ⟨(List.replicate n 0).toArray⟩) (w.alloc (.cells (madeCells #[.int .u8 0] n) 5)) := by
  rw [made_zeros]
  exact run_string_block Tryd.underlying41 Tryd.underlying5 Tryd.underlying9 (heap_alloc_new w _) (by simp)

/-- One in a list in a list .. -/
def nest : Nat → IT
  | 0 => .num 7
  | k + 1 => .list [nest k]
theorem nest_dep (k : Nat) : (nest k).dep = k + 1 := by
  induction k with
  | zero => rw [nest, IT.dep]
  | succ k ih => rw [nest, IT.dep, depL, depL, ih]; omega
theorem nest_encE (k : Nat) : (nest k).encE = 0 := by
  induction k with
  | zero => rw [nest, IT.encE]
  | succ k ih => rw [nest, IT.encE, encEL, encEL, if_pos (by simp), if_pos ih]
theorem nest_enc (k : Nat) : (nest k).enc.length = 9 + 3 * k := by
  induction k with
  | zero => rw [nest, IT.enc]; simp [bytesTo_le]
  | succ k ih => rw [nest, IT.enc, encL, encL]; simp [bytesTo_le, ih]; omega
theorem nest_encR (k : Nat) : (nest k).encR = if k + 1 ≤ 8 then 0 else 1 := by
  unfold IT.encR
  rw [nest_dep]
  split
  · exact nest_encE k
  · rfl

def ones (c : Nat) : IT := .list (List.replicate c (.num 1))
theorem ones_facts (c : Nat) : encEL (List.replicate c (.num 1)) = 0 ∧ (encL (List.replicate c (.num 1))).length = 9 * c ∧ depL (List.replicate c (.num 1)) ≤ 1 := by
  induction c with
  | zero => exact ⟨by rw [List.replicate_zero, encEL], by rw [List.replicate_zero, encL]; rfl, by rw [List.replicate_zero, depL]; omega⟩
  | succ c ih =>
    obtain ⟨a, b, d⟩ := ih
    rw [List.replicate_succ]
    refine ⟨by rw [encEL, IT.encE, if_pos rfl]; exact a, by rw [encL, IT.enc]; simp [bytesTo_le, b]; omega, by rw [depL, IT.dep]; omega⟩
theorem ones_encR (c : Nat) : (ones c).encR = if c ≤ 256 then 0 else 22 := by
  unfold IT.encR ones
  obtain ⟨a, b, d⟩ := ones_facts c
  rw [if_pos (by rw [IT.dep]; omega), IT.encE, List.length_replicate, a]

theorem onesV (w : World) (ok : Nat → Prop) (c : Nat) : ItmL w ok (List.replicate c (.iface 2 (.int .i64 1))) (List.replicate c (.num 1)) := by
  induction c with
  | zero => rw [List.replicate_zero, List.replicate_zero, ItmL]; trivial
  | succ c ih => rw [List.replicate_succ, List.replicate_succ, ItmL]; exact ⟨Itm.num_eq.2 rfl, ih⟩

theorem zeros_encR (n : Nat) : (IT.text ⟨(List.replicate n 0).toArray⟩).encR = if n ≤ 4096 then 0 else 2 := by
  unfold IT.encR
  have hs : (ByteArray.mk (List.replicate n 0).toArray).size = n := by show (List.replicate n (0 : UInt8)).toArray.size = n; simp
  rw [if_pos (by rw [IT.dep]; decide), IT.encE, hs]

set_option maxRecDepth 100000 in
set_option maxHeartbeats 4000000 in
theorem itemLimits_any (a : Int) (_wa : (Lit.int .i64 a).wf = true) (b : Int) (_wb : (Lit.int .i64 b).wf = true) (d : Int) (_wd : (Lit.int .i64 d).wf = true) (w : World) (hp : Pow w) :
    Calls Tryd.prog 5 #[.int .i64 a, .int .i64 b, .int .i64 d] w fun e w' => e = .returned (.bool true) ∧ Below w.heap.size w w' := by
  obtain ⟨x, hx, hxa⟩ := and15 a
  obtain ⟨y, hy, hya⟩ := and15 b
  obtain ⟨z, hz, hza⟩ := and15 d
  obtain ⟨n, hn⟩ : ∃ n, n = 4090 + x := ⟨_, rfl⟩
  obtain ⟨c, hc⟩ : ∃ c, c = 250 + y := ⟨_, rfl⟩
  obtain ⟨m, hm⟩ : ∃ m, m = 1 + z := ⟨_, rfl⟩
  have en : (4090 : Int) + (x : Int) = (n : Int) := by omega
  have ec : (250 : Int) + (y : Int) = (c : Int) := by omega
  have em : (1 : Int) + (z : Int) = (m : Int) := by omega
  have n0 : n ≤ 4105 := by omega
  have c0 : c ≤ 265 := by omega
  have m0 : 1 ≤ m ∧ m ≤ 16 := by omega
  have HP := Lib.hid hp
  clear hn hc hm hp
  have hmk := run_make_row' (P := Tryd.prog) 41 5 (.int .u8 0) 1 Tryd.underlying41 Tryd.infoByte rfl .i64 .i64 n (by omega) (by omega)
  have hst := zeros_text n
  have E1 := Lib.hid (zeros_encR n)
  have hsz : (ByteArray.mk (List.replicate n 0).toArray).size = n := by show (List.replicate n (0 : UInt8)).toArray.size = n; simp
  have Hsz := Lib.hid hsz
  clear hsz
  generalize (ByteArray.mk (List.replicate n 0).toArray) = S at hst E1 Hsz
  go_enter Tryd.func5, Tryd.ntmps5
  go_wp2_with fail
  refine (speaks4_any _ HP.out).mono ?_
  rintro e w1 ⟨rfl, hb1⟩
  go_wp2_with fail
  have s1 := hb1.size
  have hb2 : Below w.heap.size w (w1.alloc (.cells (madeCells #[.int .u8 0] n) 5)) := hb1.alloc s1 _
  generalize (w1.alloc (.cells (madeCells #[.int .u8 0] n) 5)) = w2 at hb2 ⊢
  clear hxa hya hza en ec em hmk hst
  refine (itText_any S _).mono ?_
  rintro e w' ⟨rfl, rfl⟩
  go_wp2_with fail
  refine (itEncode_any (.text S) _ _ (fun _ => True) (Itm.text_eq.2 rfl) (by rw [IT.dep]; decide) (by rw [IT.enc]; have := Hsz.out; simp [bytesTo_le]; omega)).mono ?_
  rintro e w3 ⟨rfl, hb3⟩
  have s2 := hb2.size
  have hb3 := hb2.trans (hb3.mono s2)
  have s3 := hb3.size
  rw [E1.out]
  obtain ⟨q1, hq1⟩ : ∃ q, q = (if n ≤ 4096 then (0 : Int) else 2) := ⟨_, rfl⟩
  rw [← hq1]
  have Hq1 := Lib.hid hq1
  clear hq1 hb1 hb2
  generalize (IT.text S).encT = T1
  go_wp2_with fail
  go_loopw [9, 10] (fun l i W => ∃ k : Nat, k ≤ c ∧ i = .int .i64 k ∧ W.ownsRow w.heap.size 24 1 l k (List.replicate k (.iface 2 (.int .i64 1))) ∧ Below w.heap.size w W) (fun _ i _ => c - (intOf i).toNat)
  case atStart => exact ⟨0, Nat.zero_le _, rfl, World.ownsRow_nil _ _ _ _, hb3⟩
  case round =>
    obtain ⟨k, hk, rfl, hown, hb⟩ := hrel
    have sr := hb.size
    by_cases hlt : k < c
    · have Hown := Lib.hid hown
      clear hown
      go_wp2_with fail
      refine (itNum_any 1 _).mono ?_
      rintro e w' ⟨rfl, rfl⟩
      go_wp2_with (at_builtin; refine Hid.out ?_)
      unfold Hid
      refine wpList_appW rfl rfl Tryd.underlying42 Tryd.infoItem rfl 1 Hown.out rfl rfl rfl ?_ ?_ ?_ (by omega) ?_
      · simp [Value.oneCell']
      · omega
      · unfold maxLen; omega
      intro v' w4 ho4 hg4 _
      have hb4 := hb.grown hg4 sr (fun j hj => (Hown.out.lt j hj).1)
      have ho4 : w4.ownsRow w.heap.size 24 1 v' (k + 1) (List.replicate (k + 1) (.iface 2 (.int .i64 1))) := by rw [List.replicate_succ']; exact ho4
      obtain ⟨a4, c4, rfl⟩ := own_shape ho4
      clear hg4
      go_wp2
      go_roundw
      case rel => exact ⟨k + 1, by omega, by go_num, ho4, hb4⟩
      case measure => simp [intOf]; omega
    · obtain rfl : k = c := by omega
      obtain ⟨al, cl, rfl⟩ := own_shape hown
      have hold : Holder wr (fun _ => True) al (List.replicate k (.num 1)) := by
        refine ⟨List.replicate k (.iface 2 (.int .i64 1)), by simp, by simp; omega, fun hne => ?_, onesV _ _ _⟩
        obtain ⟨g, c', hv, _, hg, _, hc⟩ := own_open hown (by intro e; subst e; exact hne rfl)
        injection hv with e1 _ _
        exact ⟨g, e1, hg, hc⟩
      have hlist := itList_any al cl _ wr _ hold
      rw [List.length_replicate] at hlist
      have Hlist := Lib.hid hlist
      clear hlist hold hown
      go_wp2_with fail
      refine Hlist.out.mono ?_
      rintro e w4 ⟨v4, rfl, hi4, hb4⟩
      have hb4 := hb.trans (hb4.mono sr)
      have s4 := hb4.size
      obtain ⟨T, u, rfl⟩ := hi4.one
      go_wp2_with fail
      refine (itEncode_any (ones k) _ _ _ hi4 (by unfold ones; rw [IT.dep]; have := (ones_facts k).2.2; omega) (by unfold ones; rw [IT.enc]; have := (ones_facts k).2.1; simp [bytesTo_le]; omega)).mono ?_
      rintro e w5 ⟨rfl, hb5⟩
      have hb5 := hb4.trans (hb5.mono s4)
      have s5 := hb5.size
      rw [ones_encR]
      obtain ⟨q2, hq2⟩ : ∃ q, q = (if k ≤ 256 then (0 : Int) else 22) := ⟨_, rfl⟩
      rw [← hq2]
      have Hq2 := Lib.hid hq2
      clear hq2 hb4 hb hi4 Hlist
      generalize (ones k).encT = T2
      go_wp2_with fail
      refine (itNum_any 7 _).mono ?_
      rintro e w' ⟨rfl, rfl⟩
      go_wp2_with fail
      go_loopw [13, 14] (fun v i W => ∃ (j : Nat) (T : TypeId) (u : Value), j + 1 ≤ m ∧ i = .int .i64 ((j : Int) + 1) ∧ v = .iface T u ∧ Itm W (fun _ => True) (.iface T u) (nest j) ∧ Below w.heap.size w W) (fun _ i _ => m - (intOf i).toNat)
      case atStart => exact ⟨0, _, _, by omega, rfl, rfl, by rw [nest]; exact Itm.num_eq.2 rfl, hb5⟩
      case round =>
        obtain ⟨j, T, u, hj, rfl, rfl, hi, hb⟩ := hrel
        have sr := hb.size
        by_cases hlt : j + 1 < m
        · have hlt' : decide ((j : Int) + 1 < (m : Int)) = true := by simp; omega
          go_wp2_with fail
          have hold : Holder (wr.alloc (.cells #[.iface T u] 24)) (fun _ => True) (some ⟨wr.heap.size, 0, none⟩) [nest j] := by
            refine ⟨[.iface T u], rfl, by simp, fun _ => ⟨wr.heap.size, rfl, by simp, fun i x hx => ?_⟩, ?_⟩
            · rw [World.cell?_alloc_at _ _ _ _ rfl]; simpa using hx
            · rw [ItmL, ItmL]; exact ⟨hi.old ((Below.refl _ _).alloc (Nat.le_refl _) _), trivial⟩
          refine (itList_any _ 1 _ _ _ hold).mono ?_
          rintro e w6 ⟨v6, rfl, hi6, hb6⟩
          have hb6 : Below w.heap.size w w6 := (hb.alloc sr _).trans (hb6.mono (by simp; omega))
          obtain ⟨T6, u6, rfl⟩ := hi6.one
          have hi6 : Itm w6 (fun _ => True) (.iface T6 u6) (nest (j + 1)) := hi6.mono fun _ _ _ => trivial
          clear hold hlt'
          go_wp2
          go_roundw
          case rel => exact ⟨j + 1, T6, u6, by omega, by go_num, rfl, hi6, hb6⟩
          case measure => simp [intOf]; omega
        · have hlt' : decide ((j : Int) + 1 < (m : Int)) = false := by simp; omega
          obtain rfl : m = j + 1 := by omega
          go_wp2_with fail
          refine (itEncode_any (nest j) _ _ _ hi (by rw [nest_dep]; omega) (by rw [nest_enc]; omega)).mono ?_
          rintro e w6 ⟨rfl, hb6⟩
          have hb6 := hb.trans (hb6.mono sr)
          have s6 := hb6.size
          rw [nest_encR]
          obtain ⟨q3, hq3⟩ : ∃ q, q = (if j + 1 ≤ 8 then (0 : Int) else 1) := ⟨_, rfl⟩
          rw [← hq3]
          have Hq3 := Lib.hid hq3
          clear hq3
          generalize (nest j).encT = T3
          go_wp2_with fail
          refine (itEncode_nil _).mono ?_
          rintro e w7 ⟨rfl, hb7⟩
          have hb7 := hb6.trans (hb7.mono s6)
          have h1 : (q1 = 0 ∧ decide (4096 < (n : Int)) = false ∧ decide ((n : Int) ≤ 4096) = true) ∨ (q1 = 2 ∧ decide (4096 < (n : Int)) = true ∧ decide ((n : Int) ≤ 4096) = false) := by
            have := Hq1.out
            by_cases h : n ≤ 4096
            · rw [if_pos h] at this; exact .inl ⟨this, by simp; omega, by simp; omega⟩
            · rw [if_neg h] at this; exact .inr ⟨this, by simp; omega, by simp; omega⟩
          have h2 : (q2 = 0 ∧ decide (256 < (k : Int)) = false ∧ decide ((k : Int) ≤ 256) = true) ∨ (q2 = 22 ∧ decide (256 < (k : Int)) = true ∧ decide ((k : Int) ≤ 256) = false) := by
            have := Hq2.out
            by_cases h : k ≤ 256
            · rw [if_pos h] at this; exact .inl ⟨this, by simp; omega, by simp; omega⟩
            · rw [if_neg h] at this; exact .inr ⟨this, by simp; omega, by simp; omega⟩
          have h3 : (q3 = 0 ∧ decide (8 < (j : Int) + 1) = false ∧ decide ((j : Int) + 1 ≤ 8) = true) ∨ (q3 = 1 ∧ decide (8 < (j : Int) + 1) = true ∧ decide ((j : Int) + 1 ≤ 8) = false) := by
            have := Hq3.out
            by_cases h : j + 1 ≤ 8
            · rw [if_pos h] at this; exact .inl ⟨this, by simp; omega, by simp; omega⟩
            · rw [if_neg h] at this; exact .inr ⟨this, by simp; omega, by simp; omega⟩
          clear Hq1 Hq2 Hq3 hi hlt hlt'
          rcases h1 with ⟨rfl, a1, a2⟩ | ⟨rfl, a1, a2⟩ <;> rcases h2 with ⟨rfl, b1, b2⟩ | ⟨rfl, b1, b2⟩ <;> rcases h3 with ⟨rfl, d1, d2⟩ | ⟨rfl, d1, d2⟩
          all_goals
            go_wp2
            go_ret
            exact ⟨rfl, hb7⟩

end Go.Proofs.YtkjekofllfkgoaaDoor
