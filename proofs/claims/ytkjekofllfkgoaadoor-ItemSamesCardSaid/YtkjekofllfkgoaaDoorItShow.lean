/- item.Show: an item as text. Conditions: strconv's table of powers holds what its initialiser lays; numbers within int64; the text far shorter than 2^47 bytes. -/
import Derived.Test.YtkjekofllfkgoaaDoorItDepth
import Derived.Test.YtkjekofllfkgoaaDoorItQuote
import Derived.Test.YtkjekofllfkgoaaDoorShelf
import Derived.WalkSmall
import Derived.Lib.AppendIntMem
namespace Go.Proofs.YtkjekofllfkgoaaDoor
open Go.RowKit

/-- The table of powers holds what its initialiser lays. -/
def Pow (w : World) : Prop := Lib.TabIs Tryd.prog w "internal/strconv.uint64pow10" .u64 Lib.pow10Tab
theorem Tryd.powName : Tryd.prog.globalNamed "internal/strconv.uint64pow10" = some 0 := by kernel_rfl
theorem Pow.below {B : Nat} {w w' : World} (h : Pow w) (hb : Below B w w') (hB : 0 < B) : Pow w' := var?_below hb Tryd.powName hB h

theorem Pow.lt {w : World} (h : Pow w) : 0 < w.heap.size := by
  have hc := World.var?_cell Tryd.powName h 0
  have : w.cell? ⟨0, 0, none⟩ = some (.int .u64 1) := by rw [hc]; rfl
  exact World.block_lt_of_cell? w _ this
theorem Pow.old {w w' : World} (h : Pow w) (hb : Below w.heap.size w w') : Pow w' := h.below hb h.lt

theorem fmtInt_any (n : Int) (h0 : -9223372036854775808 ≤ n) (h1 : n ≤ 9223372036854775807) (w : World) (hp : Pow w) :
    Calls Tryd.prog 32 #[.int .i64 n, .int .i64 10] w fun e w' => e = .returned (.string ⟨(Lib.itoa n).toArray⟩) ∧ Below w.heap.size w w' := by
  refine (Tryd.strconv_FormatInt_10 n h0 h1 w hp).mono ?_
  rintro e w' ⟨he, k, os, rfl⟩
  exact ⟨he, Lib.below_grow _ _ (Nat.le_refl _) _ _⟩

mutual
/-- The item as text. -/
def IT.shw : IT → List UInt8
  | .num n => Lib.itoa n
  | .text s => quo s
  | .list l => 91 :: (Lib.join (shwL l) [32] ++ [93])
def shwL : List IT → List (List UInt8)
  | [] => []
  | t :: l => t.shw :: shwL l
end
mutual
/-- Its numbers are int64's. -/
def IT.wf : IT → Prop
  | .num n => -9223372036854775808 ≤ n ∧ n ≤ 9223372036854775807
  | .text _ => True
  | .list l => wfIL l
def wfIL : List IT → Prop
  | [] => True
  | t :: l => t.wf ∧ wfIL l
end
theorem wf_mem : ∀ {l : List IT} {t : IT}, wfIL l → t ∈ l → t.wf
  | t0 :: l, t, h, hm => by
    rw [wfIL] at h
    rcases List.mem_cons.1 hm with rfl | hm
    · exact h.1
    · exact wf_mem h.2 hm
theorem shwL_map (l : List IT) : shwL l = l.map IT.shw := by
  induction l with
  | nil => rw [shwL]; rfl
  | cons t l ih => rw [shwL, ih]; rfl
theorem unbytes (l : List (List UInt8)) : (l.map fun x => (⟨x.toArray⟩ : ByteArray)).map (·.data.toList) = l := by
  induction l with
  | nil => rfl
  | cons x l ih => rw [List.map_cons, List.map_cons, ih]
theorem brack (l : List UInt8) : (⟨#[91]⟩ : ByteArray) ++ ⟨l.toArray⟩ ++ ⟨#[93]⟩ = ⟨(91 :: (l ++ [93])).toArray⟩ := by
  have h1 := bytes_concat [91] l
  have h2 := bytes_concat ([91] ++ l) [93]
  rw [← h1] at h2
  exact h2
theorem tail_ge (sep : List UInt8) (x : List UInt8) : ∀ r : List (List UInt8), x ∈ r → x.length ≤ (Lib.joinTail sep r).length
  | z :: r, h => by
    have e : Lib.joinTail sep (z :: r) = sep ++ z ++ Lib.joinTail sep r := by simp [Lib.joinTail]
    rw [e, List.length_append, List.length_append]
    rcases List.mem_cons.1 h with rfl | h
    · omega
    · have := tail_ge sep x r h; omega
theorem join_ge (sep : List UInt8) : ∀ (xs : List (List UInt8)) (x : List UInt8), x ∈ xs → x.length ≤ (Lib.join xs sep).length
  | y :: r, x, h => by
    rw [Lib.join_cons, List.length_append]
    rcases List.mem_cons.1 h with rfl | h
    · omega
    · have := tail_ge sep x r h; omega
theorem quo_ge (s : ByteArray) : s.size ≤ (quo s).length := by
  have : ∀ l : List UInt8, l.length ≤ (qbs l).length := by
    intro l
    induction l with
    | nil => exact Nat.zero_le _
    | cons c l ih =>
      have : 1 ≤ (qb c).length := by unfold qb; split <;> simp
      simp only [qbs, List.map_cons, List.flatten_cons, List.length_append, List.length_cons] at ih ⊢; omega
  have := this s.data.toList
  unfold quo; simp at this ⊢; omega

/-- The texts as values. -/
def strV (l : List (List UInt8)) : List Value := l.map fun x => .string ⟨x.toArray⟩
theorem Tryd.infoString : (Tryd.prog.info? 9).map (fun i => (i.zero, i.size, i.bytes)) = some (some (.string .empty), 1, 16) := by kernel_rfl

theorem show_num (n : Int) (w : World) (hp : Pow w) (h0 : -9223372036854775808 ≤ n) (h1 : n ≤ 9223372036854775807) :
    Calls Tryd.prog 13 #[.iface 2 (.int .i64 n)] w fun e w' => e = .returned (.string ⟨(IT.num n).shw.toArray⟩) ∧ Below w.heap.size w w' := by
  have h1' := run_assert_hit (P := Tryd.prog) plainNum (.int .i64 n) 24
  have hc := Lib.hid (fmtInt_any n h0 h1 w hp)
  clear h0 h1
  rw [IT.shw]
  go_enter Tryd.func13, Tryd.ntmps13
  go_wp2_with fail
  refine hc.out.mono ?_
  rintro e w1 ⟨rfl, hb⟩
  go_wp2
  go_ret
  exact ⟨rfl, hb⟩

theorem show_text (s : ByteArray) (w : World) (hs : s.size ≤ 1099511627776) :
    Calls Tryd.prog 13 #[.iface 9 (.string s)] w fun e w' => e = .returned (.string ⟨(IT.text s).shw.toArray⟩) ∧ Below w.heap.size w w' := by
  have h1 := run_assert_hit (P := Tryd.prog) plainText (.string s) 24
  have h0 := run_assert_miss (P := Tryd.prog) plainNum zeroNum (t := 9) (by decide) (.string s) 24
  rw [IT.shw]
  go_enter Tryd.func13, Tryd.ntmps13
  go_wp2_with fail
  refine (quote_any s _ hs).mono ?_
  rintro e w1 ⟨rfl, hb⟩
  go_wp2
  go_ret
  exact ⟨rfl, hb⟩

set_option maxRecDepth 100000 in
set_option maxHeartbeats 800000 in
theorem show_any (m : Nat) : ∀ (t : IT) (v : Value) (w : World) (ok : Nat → Prop), t.dep ≤ m → Itm w ok v t → Pow w → t.wf → t.shw.length ≤ 1099511627776 →
    Calls Tryd.prog 13 #[v] w fun e w' => e = .returned (.string ⟨t.shw.toArray⟩) ∧ Below w.heap.size w w' := by
  induction m with
  | zero => intro t v w ok hd; cases t <;> simp [IT.dep] at hd
  | succ m ih =>
    intro t v w ok hd hi hp hwf hl
    match t, hd, hi, hwf, hl with
    | .num n, _, hi, hwf, _ => rw [Itm.num_eq] at hi; subst hi; rw [IT.wf] at hwf; exact show_num n w hp hwf.1 hwf.2
    | .text s, _, hi, _, hl => rw [Itm.text_eq] at hi; subst hi; exact show_text s w (by rw [IT.shw] at hl; have := quo_ge s; omega)
    | .list q, hd, hi, hwf, hl =>
      have hi : Itm w (· < w.heap.size) v (.list q) := hi.mono fun _ _ h => h
      rw [Itm.list_eq] at hi
      obtain ⟨a, cap, xs, rfl, hlen, hmax, ha, hx⟩ := hi
      rw [IT.dep] at hd
      rw [IT.wf] at hwf
      rw [IT.shw] at hl ⊢
      have HJ := Lib.hid (join_ge [32] (shwL q))
      have h0 := run_assert_miss (P := Tryd.prog) plainNum zeroNum (t := 85) (by decide) (.slice a q.length cap) 24
      have h2 := run_assert_miss (P := Tryd.prog) plainText zeroText (t := 85) (by decide) (.slice a q.length cap) 24
      have h1 := run_assert_hit (P := Tryd.prog) plainList (.slice a q.length cap) 24
      have hl' : (Lib.join (shwL q) [32]).length + 2 ≤ 1099511627776 := by simpa using hl
      have Hlen := Lib.hid hlen
      have HX := Lib.hid hx
      have HA := Lib.hid ha
      have HP := Lib.hid hp
      have HW := Lib.hid hwf
      clear hlen hx ha hp hwf hl
      go_enter Tryd.func13, Tryd.ntmps13
      go_wp2_with fail
      clear h0 h1 h2
      go_loopw [6, 25] (fun s i W => ∃ k : Nat, k ≤ q.length ∧ i = .int .i64 k ∧ W.ownsRow w.heap.size 9 1 s k (strV ((q.take k).map IT.shw)) ∧ Below w.heap.size w W) (fun _ i _ => q.length - (intOf i).toNat)
      case atStart => exact ⟨0, Nat.zero_le _, rfl, World.ownsRow_nil _ _ _ _, Below.refl _ _⟩
      case round =>
        obtain ⟨k, hk, rfl, hown, hb⟩ := hrel
        by_cases hlt : k < q.length
        · obtain ⟨c, T, u, t, rfl, hc0, hcB, ht, hmem, hc, hit⟩ := Itm.cell_at HX.out HA.out k hlt
          have hc : wr.cell? ⟨c, k, none⟩ = some (.iface T u) := (hb.cell (p := ⟨c, k, none⟩) hcB).trans hc
          have hit := hit.below hb (fun _ h _ => h)
          have htd := dep_mem hmem
          have htl := HJ.out t.shw (by rw [shwL_map]; exact List.mem_map_of_mem hmem)
          have Ht := Lib.hid (show strV ((q.take (k + 1)).map IT.shw) = strV ((q.take k).map IT.shw) ++ [.string ⟨t.shw.toArray⟩] by rw [List.take_add_one, ht]; simp [strV])
          have hwt := Lib.hid (wf_mem HW.out hmem)
          have hbs := hb.size
          have Hown := Lib.hid hown
          clear hown
          go_wp2_with fail
          refine (ih t _ _ _ (by omega) hit (HP.out.below hb HP.out.lt) hwt.out (by omega)).mono ?_
          rintro e w1 ⟨rfl, hb1⟩
          have hown := (Touch.of_below hb1 (fun _ => False)).own Hown.out (fun _ _ h => h)
          have hb2 := hb.trans (hb1.mono hbs)
          have hs1 := hb2.size
          go_wp2_with (at_builtin; refine Hid.out ?_)
          unfold Hid
          refine wpList_app1 rfl rfl Tryd.underlying86 Tryd.infoString rfl hown rfl rfl rfl (by omega) (by unfold maxLen; omega) (by omega) ?_
          intro v' w2 ho2 hg2
          rw [← Ht.out] at ho2
          have hb3 := hb2.grown hg2 hs1 (fun j hj => (hown.lt j hj).1)
          clear hown hc hit Hown
          go_wp2
          go_roundw
          case rel => exact ⟨k + 1, by omega, by go_num, ho2, hb3⟩
          case measure => simp [intOf]; omega
        · obtain rfl : k = q.length := by omega
          rw [List.take_length, ← shwL_map] at hown
          clear hlt
          by_cases hq : q = []
          · subst hq
            obtain ⟨a2, cap2, rfl⟩ := own_shape hown
            have Hj := Lib.hid (show Lib.join (shwL []) [32] = [] by rw [shwL]; rfl)
            clear hown
            go_wp2_with fail
            refine (Tryd.strings_Join_none a2 cap2 _ _).mono ?_
            rintro e w1 ⟨rfl, rfl⟩
            go_wp2
            go_ret
            exact ⟨by rw [Hj.out]; rfl, hb⟩
          · obtain ⟨g, cap2, rfl, hbg, hgw, hnc, hcell⟩ := own_open hown (by simpa using hq)
            have HC := Lib.hid hcell
            have Hm := Lib.hid (show ((shwL q).map fun x => (⟨x.toArray⟩ : ByteArray)).map (·.data.toList) = shwL q from unbytes _)
            have Hml := Lib.hid (show ((shwL q).map fun x => (⟨x.toArray⟩ : ByteArray)).length = q.length by rw [List.length_map, shwL_map, List.length_map])
            clear hown hq hcell
            go_wp2_with fail
            have HJn := Lib.hid (Tryd.strings_Join g 0 cap2 ((shwL q).map fun x => (⟨x.toArray⟩ : ByteArray)) ⟨#[32]⟩ wr (fun j x hj => by
              rw [Nat.zero_add]
              refine HC.out j _ ?_
              rw [strV, List.getElem?_map]
              rw [List.getElem?_map] at hj
              cases hjx : (shwL q)[j]? with
              | none => rw [hjx] at hj; cases hj
              | some y => rw [hjx] at hj; simp at hj; subst hj; rfl) hgw (by rw [Hml.out]; omega) (by rw [Hml.out]; exact hnc) (by rw [Hm.out]; show (Lib.join (shwL q) [32]).length ≤ _; omega))
            rw [Hm.out, Hml.out] at HJn
            refine HJn.out.mono ?_
            rintro e w1 ⟨rfl, hb1⟩
            have hb2 := hb.trans (hb1.mono hb.size)
            clear HJn
            go_wp2
            go_ret
            exact ⟨congrArg (fun s => Ending.returned (.string s)) (brack _), hb2⟩

end Go.Proofs.YtkjekofllfkgoaaDoor
