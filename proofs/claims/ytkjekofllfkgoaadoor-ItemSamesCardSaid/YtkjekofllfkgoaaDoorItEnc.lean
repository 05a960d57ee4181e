/- item.encode, item.Encode: an item's bytes, or why it has none. Conditions: no deeper than a million, all told far shorter than 2^47 bytes; numbers within int64. -/
import Derived.Test.YtkjekofllfkgoaaDoorItDepth
import Derived.Test.YtkjekofllfkgoaaDoorWriter
namespace Go.Proofs.YtkjekofllfkgoaaDoor
open Go.RowKit

def u64n (n : Int) : Nat := (n % 18446744073709551616).toNat
mutual
/-- The bytes. -/
def IT.enc : IT → List UInt8
  | .num n => 1 :: bytesTo (u64n n) 8 8
  | .text s => 2 :: (bytesTo s.size 2 2 ++ s.data.toList)
  | .list l => 3 :: (bytesTo l.length 2 2 ++ encL l)
def encL : List IT → List UInt8
  | [] => []
  | t :: l => t.enc ++ encL l
end
mutual
/-- Why it has none. -/
def IT.encE : IT → Int
  | .num _ => 0
  | .text s => if s.size ≤ 4096 then 0 else 2
  | .list l => if l.length ≤ 256 then encEL l else 22
def encEL : List IT → Int
  | [] => 0
  | t :: l => if t.encE = 0 then encEL l else t.encE
end

theorem encL_take (l : List IT) (k : Nat) (t : IT) (h : l[k]? = some t) : encL (l.take (k + 1)) = encL (l.take k) ++ t.enc := by
  induction l generalizing k with
  | nil => simp at h
  | cons t0 l ih =>
    cases k with
    | zero => simp at h; subst h; simp [encL]
    | succ k =>
      simp at h
      rw [List.take_succ_cons, List.take_succ_cons, encL, encL, ih k h, List.append_assoc]
theorem encL_take_le (l : List IT) (k : Nat) : (encL (l.take k)).length ≤ (encL l).length := by
  induction l generalizing k with
  | nil => simp
  | cons t l ih =>
    cases k with
    | zero => simp [encL]
    | succ k => rw [List.take_succ_cons, encL, encL]; simp; exact ih k
theorem encEL_take (l : List IT) (k : Nat) (t : IT) (h : l[k]? = some t) (h0 : encEL (l.take k) = 0) : encEL (l.take (k + 1)) = t.encE ∧ (t.encE ≠ 0 → encEL l = t.encE) := by
  induction l generalizing k with
  | nil => simp at h
  | cons t0 l ih =>
    cases k with
    | zero =>
      simp at h; subst h
      constructor
      · by_cases e : t0.encE = 0 <;> simp [encEL, e]
      · intro e; rw [encEL, if_neg e]
    | succ k =>
      simp at h
      rw [List.take_succ_cons, encEL] at h0
      by_cases e : t0.encE = 0
      · rw [if_pos e] at h0
        have := ih k h h0
        rw [List.take_succ_cons, encEL, if_pos e, encEL, if_pos e]
        exact this
      · rw [if_neg e] at h0; exact absurd h0 e

/-- What is known of the writer while an item is written. -/
structure Wri (B b : Nat) (w : World) (l : List UInt8) : Prop where
  wr : ∃ u, Wr w b u l 0 ∧ ∀ k, u.ownBlock = some k → B ≤ k
  le : B ≤ b
  sz : B ≤ w.heap.size

theorem Wr.lt {w : World} {b : Nat} {v : Value} {l : List UInt8} {bad : Int} (h : Wr w b v l bad) : b < w.heap.size := by
  obtain ⟨ad, h⟩ := h; exact lt_of_heap h.blk

theorem wri_step {B b : Nat} {w w' : World} {u u' : Value} {l' : List UInt8} (hu : ∀ k, u.ownBlock = some k → B ≤ k) (hB : B ≤ b) (hs : B ≤ w.heap.size) (h' : Wr w' b u' l' 0) (ht : Touch (BuS b u) w w') (hn : NewOrSame w u u') : Wri B b w' l' ∧ Below B w w' := by
  refine ⟨⟨⟨u', h', fun k hk => ?_⟩, hB, Nat.le_trans hs ht.size⟩, ht.below (fun i hi => ?_) hs⟩
  · rcases hn with hn | hn
    · exact hu k (by rw [← hn]; exact hk)
    · exact Nat.le_trans hs (hn k hk)
  · rcases hi with rfl | hi
    · exact hB
    · exact hu i hi

/-- Num on a writer that has no error, of a number that fits. -/
theorem wri_num (B b n z : Nat) (w : World) (l : List UInt8) (h : Wri B b w l) (h1 : 1 ≤ z) (h8 : z ≤ 8) (hn : n < 256 ^ z) (hl : l.length ≤ 70368744177664) :
    Calls Tryd.prog 36 #[.pointer (some ⟨b, 0, none⟩), .int .u64 n, .int .i64 z] w fun e w' => e = .returned (.pointer (some ⟨b, 0, none⟩)) ∧ Wri B b w' (l ++ bytesTo n z z) ∧ Below B w w' := by
  obtain ⟨⟨u, hw, hu⟩, hB, hs⟩ := h
  refine (wrNum_in b n z w u l h1 h8 hw hl ((pow_div_zero n z).2 hn)).mono ?_
  rintro e w' ⟨he, v', hw', ht, hn'⟩
  exact ⟨he, wri_step hu hB hs hw' ht hn'⟩

theorem wri_text (B b : Nat) (s : ByteArray) (w : World) (l : List UInt8) (h : Wri B b w l) (hz : s.size ≤ 4096) (hl : l.length ≤ 35184372088832) :
    Calls Tryd.prog 37 #[.pointer (some ⟨b, 0, none⟩), .string s] w fun e w' => e = .returned (.pointer (some ⟨b, 0, none⟩)) ∧ Wri B b w' (l ++ (bytesTo s.size 2 2 ++ s.data.toList)) ∧ Below B w w' := by
  obtain ⟨⟨u, hw, hu⟩, hB, hs⟩ := h
  refine (wrText_any b s w u l 0 hw (by unfold maxLen; omega) hl).mono ?_
  rintro e w' ⟨he, v', hw', ht, hn'⟩
  have h1 : wtL l 0 s = l ++ (bytesTo s.size 2 2 ++ s.data.toList) := by unfold wtL; rw [if_pos ⟨hz, rfl⟩, List.append_assoc]
  have h2 : flBad (okText s) 0 2 = 0 := by unfold okText; rw [decide_eq_true hz, flBad_ok]
  rw [h1, h2] at hw'
  exact ⟨he, wri_step hu hB hs hw' ht hn'⟩

theorem u64_wrap (n : Int) : IntKind.u64.wrap n = (u64n n : Int) := by
  have : IntKind.u64.wrap n = n % 18446744073709551616 := by simp [IntKind.wrap, IntKind.bits, IntKind.signed]
  rw [this, u64n]; omega
theorem u64n_lt (n : Int) : u64n n < 256 ^ 8 := by
  have : (256 : Nat) ^ 8 = 18446744073709551616 := by decide
  unfold u64n; omega

/-- What encode leaves. -/
def EncPost (B b : Nat) (l : List UInt8) (t : IT) (w : World) (e : Ending) (w' : World) : Prop :=
  e = .returned (.int .i64 t.encE) ∧ Below B w w' ∧ ∃ l', Wri B b w' l' ∧ l'.length ≤ l.length + t.enc.length ∧ (t.encE = 0 → l' = l ++ t.enc)

theorem encode_num (B b : Nat) (n : Int) (w : World) (l : List UInt8) (h : Wri B b w l) (hl : l.length ≤ 35184372088832) :
    Calls Tryd.prog 27 #[.pointer (some ⟨b, 0, none⟩), .iface 2 (.int .i64 n)] w (EncPost B b l (.num n) w) := by
  have h1 := run_assert_hit (P := Tryd.prog) plainNum (.int .i64 n) 24
  have hw := u64_wrap n
  have hn := Lib.hid (u64n_lt n)
  have Hid1 := Lib.hid (show (IT.num n).enc = 1 :: bytesTo (u64n n) 8 8 by rw [IT.enc])
  have Hid2 := Lib.hid (show (IT.num n).encE = 0 by rw [IT.encE])
  generalize u64n n = m at hw hn Hid1
  go_enter Tryd.func27, Tryd.ntmps27
  go_wp2_with fail
  refine (wri_num B b 1 1 _ l h (by decide) (by decide) (by decide) (by omega)).mono ?_
  rintro e w1 ⟨rfl, hw1, hb1⟩
  go_wp2_with fail
  clear hw h1
  refine (wri_num B b m 8 _ _ hw1 (by decide) (by decide) hn.out (by simp [bytesTo_le]; omega)).mono ?_
  rintro e w2 ⟨rfl, hw2, hb2⟩
  go_wp2
  go_ret
  refine ⟨by rw [Hid2.out]; rfl, hb1.trans hb2, _, hw2, ?_, fun _ => ?_⟩
  · rw [Hid1.out]; simp [bytesTo_le]
  · rw [Hid1.out]; simp [bytesTo]; rfl

theorem encode_text (B b : Nat) (s : ByteArray) (w : World) (l : List UInt8) (h : Wri B b w l) (hl : l.length + s.size ≤ 17592186044416) :
    Calls Tryd.prog 27 #[.pointer (some ⟨b, 0, none⟩), .iface 9 (.string s)] w (EncPost B b l (.text s) w) := by
  have h1 := run_assert_hit (P := Tryd.prog) plainText (.string s) 24
  have h0 := run_assert_miss (P := Tryd.prog) plainNum zeroNum (t := 9) (by decide) (.string s) 24
  have Hid1 := Lib.hid (show (IT.text s).enc = 2 :: (bytesTo s.size 2 2 ++ s.data.toList) by rw [IT.enc])
  by_cases hz : s.size ≤ 4096
  · have Hid2 := Lib.hid (show (IT.text s).encE = 0 by rw [IT.encE, if_pos hz])
    go_enter Tryd.func27, Tryd.ntmps27
    go_wp2_with fail
    refine (wri_num B b 2 1 _ l h (by decide) (by decide) (by decide) (by omega)).mono ?_
    rintro e w1 ⟨rfl, hw1, hb1⟩
    go_wp2_with fail
    clear h0 h1
    refine (wri_text B b s _ _ hw1 hz (by simp [bytesTo_le]; omega)).mono ?_
    rintro e w2 ⟨rfl, hw2, hb2⟩
    go_wp2
    go_ret
    refine ⟨by rw [Hid2.out]; rfl, hb1.trans hb2, _, hw2, ?_, fun _ => ?_⟩
    · rw [Hid1.out]; simp [bytesTo_le]; omega
    · rw [Hid1.out]; simp [bytesTo]; rfl
  · have Hid2 := Lib.hid (show (IT.text s).encE = 2 by rw [IT.encE, if_neg hz])
    go_enter Tryd.func27, Tryd.ntmps27
    go_wp2_with fail
    go_ret
    exact ⟨by rw [Hid2.out]; rfl, Below.refl _ _, l, h, Nat.le_add_right _ _, fun e => by rw [Hid2.out] at e; cases e⟩

theorem encode_nil (b : Nat) (w : World) :
    Calls Tryd.prog 27 #[.pointer (some ⟨b, 0, none⟩), .nilIface] w fun e w' => e = .returned (.int .i64 6) ∧ w = w' := by
  have h1 := run_assert_nil (P := Tryd.prog) plainNum zeroNum 24
  have h2 := run_assert_nil (P := Tryd.prog) plainText zeroText 24
  have h3 := run_assert_nil (P := Tryd.prog) plainList zeroList 24
  go_enter Tryd.func27, Tryd.ntmps27
  go_wp2_with fail
  go_ret
  exact ⟨rfl, rfl⟩

set_option maxRecDepth 100000 in
set_option maxHeartbeats 800000 in
theorem encode_any (B b : Nat) (m : Nat) : ∀ (t : IT) (v : Value) (w : World) (l : List UInt8), t.dep ≤ m → Itm w (· < B) v t → Wri B b w l → l.length + t.enc.length ≤ 17592186044416 →
    Calls Tryd.prog 27 #[.pointer (some ⟨b, 0, none⟩), v] w (EncPost B b l t w) := by
  induction m with
  | zero => intro t v w l hd; cases t <;> simp [IT.dep] at hd
  | succ m ih =>
    intro t v w l hd hi h hl
    match t, hd, hi, hl with
    | .num n, _, hi, hl => rw [Itm.num_eq] at hi; subst hi; exact encode_num B b n w l h (by omega)
    | .text s, _, hi, hl => rw [Itm.text_eq] at hi; subst hi; exact encode_text B b s w l h (by rw [IT.enc] at hl; simp [bytesTo_le] at hl; omega)
    | .list q, hd, hi, hl =>
      rw [Itm.list_eq] at hi
      obtain ⟨a, cap, xs, rfl, hlen, hmax, ha, hx⟩ := hi
      rw [IT.dep] at hd
      have h0 := run_assert_miss (P := Tryd.prog) plainNum zeroNum (t := 85) (by decide) (.slice a q.length cap) 24
      have h2 := run_assert_miss (P := Tryd.prog) plainText zeroText (t := 85) (by decide) (.slice a q.length cap) 24
      have h1 := run_assert_hit (P := Tryd.prog) plainList (.slice a q.length cap) 24
      have Hlen := Lib.hid hlen
      clear hlen
      have Hid1 := Lib.hid (show (IT.list q).enc = 3 :: (bytesTo q.length 2 2 ++ encL q) by rw [IT.enc])
      have hl' : l.length + 3 + (encL q).length ≤ 17592186044416 := by rw [Hid1.out] at hl; simp [bytesTo_le] at hl; omega
      clear hl
      by_cases hz : q.length ≤ 256
      · have Hid2 := Lib.hid (show (IT.list q).encE = encEL q by rw [IT.encE, if_pos hz])
        have hd256 : decide (256 < (q.length : Int)) = false := by simp; omega
        go_enter Tryd.func27, Tryd.ntmps27
        go_wp2_with fail
        refine (wri_num B b 3 1 _ l h (by decide) (by decide) (by decide) (by omega)).mono ?_
        rintro e w1 ⟨rfl, hw1, hb1⟩
        have hwu : IntKind.u64.wrap (q.length : Int) = q.length := wrap_u64 _ (by omega) (by omega)
        go_wp2_with fail
        clear h0 h1 h2 hwu
        refine (wri_num B b q.length 2 _ _ hw1 (by decide) (by decide) (by omega) (by simp [bytesTo_le]; omega)).mono ?_
        rintro e w2 ⟨rfl, hw2, hb2⟩
        have hb2 := hb1.trans hb2
        have hL : l ++ bytesTo 3 1 1 ++ bytesTo q.length 2 2 = l ++ 3 :: (bytesTo q.length 2 2 ++ encL (q.take 0)) := by simp [bytesTo, encL]; rfl
        rw [hL] at hw2
        have HX := Lib.hid hx
        have HA := Lib.hid ha
        clear hL hx ha hb1 hw1
        go_wp2_with fail
        go_loopw [45] (fun i W => ∃ k : Nat, k ≤ q.length ∧ i = .int .i64 k ∧ encEL (q.take k) = 0 ∧ Wri B b W (l ++ 3 :: (bytesTo q.length 2 2 ++ encL (q.take k))) ∧ Below B w W) (fun i _ => q.length - (intOf i).toNat)
        case atStart => exact ⟨0, Nat.zero_le _, rfl, by simp [encEL], hw2, hb2⟩
        case round =>
          obtain ⟨k, hk, rfl, he0, hw, hb⟩ := hrel
          by_cases hlt : k < q.length
          · obtain ⟨c, T, u, t, rfl, hc0, hcB, ht, hmem, hc, hit⟩ := Itm.cell_at HX.out HA.out k hlt
            have hc : wr.cell? ⟨c, k, none⟩ = some (.iface T u) := (hb.cell (p := ⟨c, k, none⟩) hcB).trans hc
            have hit := hit.below hb (fun _ h _ => h)
            have htd := dep_mem hmem
            have hen := encL_take_le q (k + 1)
            have Hs := Lib.hid (encL_take q k t ht)
            rw [Hs.out, List.length_append] at hen
            have Hee := Lib.hid (encEL_take q k t ht he0)
            clear he0
            go_wp2_with fail
            refine (ih t _ _ _ (by omega) hit hw (by simp [bytesTo_le]; omega)).mono ?_
            rintro e w' ⟨rfl, hb', l2, hw', hl2, hok⟩
            have hb' := hb.trans hb'
            have Hok := Lib.hid hok
            clear hok hit hc
            by_cases h0 : t.encE = 0
            · rw [h0]
              have h1 := Hok.out h0
              subst h1
              have Hz := Lib.hid (Hee.out.1.trans h0)
              clear h0 Hok
              rw [List.append_assoc, List.cons_append, List.append_assoc, ← Hs.out] at hw'
              go_wp2
              go_roundw
              case rel => exact ⟨k + 1, by omega, by go_num, Hz.out, hw', hb'⟩
              case measure => simp [intOf]; omega
            · have hne : (t.encE != 0) = true := bne_iff_ne.2 h0
              have He := Lib.hid (Hee.out.2 h0)
              have Hne := Lib.hid h0
              clear h0
              go_wp2
              go_ret
              refine ⟨by rw [Hid2.out, He.out]; rfl, hb', _, hw', ?_, fun h => absurd (by rw [Hid2.out, He.out] at h; exact h) Hne.out⟩
              rw [Hid1.out]; simp [bytesTo_le] at hl2 ⊢; omega
          · obtain rfl : k = q.length := by omega
            rw [List.take_length] at he0 hw
            have He := Lib.hid he0
            clear he0
            go_wp2
            go_ret
            refine ⟨by rw [Hid2.out, He.out]; rfl, hb, _, hw, ?_, fun _ => ?_⟩
            · rw [Hid1.out]; simp
            · rw [Hid1.out]
      · have Hid2 := Lib.hid (show (IT.list q).encE = 22 by rw [IT.encE, if_neg hz])
        go_enter Tryd.func27, Tryd.ntmps27
        go_wp2_with fail
        go_ret
        exact ⟨by rw [Hid2.out]; rfl, Below.refl _ _, l, h, Nat.le_add_right _ _, fun e => by rw [Hid2.out] at e; cases e⟩

theorem wr_new (w : World) : Wr (w.alloc (.cells #[.pointer none, .slice none 0 0, .int .i64 0] 72)) w.heap.size (.slice none 0 0) [] 0 :=
  ⟨_, heap_alloc_new _ _, .inl rfl, rfl, World.ownsRow_nil _ _ _ _, by simp [Value.ownBlock]⟩
theorem wri_new (w : World) : Wri w.heap.size w.heap.size (w.alloc (.cells #[.pointer none, .slice none 0 0, .int .i64 0] 72)) [] :=
  ⟨⟨_, wr_new w, by simp [Value.ownBlock]⟩, Nat.le_refl _, by simp⟩

theorem wri_bytes (B b : Nat) (w : World) (l : List UInt8) (h : Wri B b w l) :
    Calls Tryd.prog 28 #[.pointer (some ⟨b, 0, none⟩)] w fun e w' => e = .returned (.tuple #[.string ⟨l.toArray⟩, .int .i64 0]) ∧ Below B w w' := by
  obtain ⟨⟨u, hw, hu⟩, hB, hs⟩ := h
  refine (wrBytes_any b w u l 0 hw).mono ?_
  rintro e w' ⟨he, ht⟩
  refine ⟨by rw [he]; unfold wbT; rw [if_pos rfl], ht.below (fun i hi => ?_) hs⟩
  rcases hi with rfl | hi
  · exact hB
  · exact hu i hi

/-- The error of Encode. -/
def IT.encR (t : IT) : Int := if t.dep ≤ 8 then t.encE else 1
def IT.encT (t : IT) : ByteArray := if t.encR = 0 then ⟨t.enc.toArray⟩ else ⟨#[]⟩

theorem itEncode_any (t : IT) (v : Value) (w : World) (ok : Nat → Prop) (hi : Itm w ok v t) (hd : t.dep ≤ 1000000) (hl : t.enc.length ≤ 17592186044416) :
    Calls Tryd.prog 11 #[v] w fun e w' => e = .returned (.tuple #[.string t.encT, .int .i64 t.encR]) ∧ Below w.heap.size w w' := by
  have hi : Itm w (· < w.heap.size) v t := hi.mono fun _ _ h => h
  obtain ⟨T, u, rfl⟩ := hi.one
  by_cases h8 : t.dep ≤ 8
  · have HR := Lib.hid (show t.encR = t.encE from if_pos h8)
    have HT := Lib.hid (show t.encR = 0 → t.encT = ⟨t.enc.toArray⟩ from fun h => if_pos h)
    have HT' := Lib.hid (show t.encR ≠ 0 → t.encT = ⟨#[]⟩ from fun h => if_neg h)
    have hd8 : decide (8 < (t.dep : Int)) = false := by simp; omega
    go_enter Tryd.func11, Tryd.ntmps11
    go_wp2_with fail
    refine (depth_any 1000000 (Nat.le_refl _) t _ _ _ hd hi).mono ?_
    rintro e w' ⟨rfl, rfl⟩
    go_wp2_with fail
    clear hd8
    have hb0 : Below w.heap.size w (w.alloc (.cells #[.pointer none, .slice none 0 0, .int .i64 0] 72)) := (Below.refl _ _).alloc (Nat.le_refl _) _
    refine (encode_any _ _ t.dep t _ _ [] (Nat.le_refl _) (hi.below hb0 (fun _ h _ => h)) (wri_new w) (by simpa using hl)).mono ?_
    rintro e w2 ⟨rfl, hb, l', hw2, _, hok⟩
    have Hok := Lib.hid hok
    clear hok
    by_cases h0 : t.encE = 0
    · have hl2 : l' = t.enc := by simpa using Hok.out h0
      subst hl2
      have HR2 := Lib.hid (HR.out.trans h0)
      rw [h0]
      clear h0
      go_wp2_with fail
      refine (wri_bytes _ _ _ _ hw2).mono ?_
      rintro e w3 ⟨rfl, hb3⟩
      go_wp2
      go_ret2
      exact ⟨by rw [HT.out HR2.out, HR2.out]; rfl, hb0.trans (hb.trans hb3)⟩
    · have hne : (t.encE != 0) = true := bne_iff_ne.2 h0
      have HR2 := Lib.hid (show t.encR ≠ 0 by rw [HR.out]; exact h0)
      clear h0
      go_wp2
      go_ret2
      exact ⟨by rw [HT'.out HR2.out, HR.out]; rfl, hb0.trans hb⟩
  · have HR := Lib.hid (show t.encR = 1 from if_neg h8)
    have HT := Lib.hid (show t.encT = ⟨#[]⟩ from if_neg (by rw [HR.out]; decide))
    have hd8 : decide (8 < (t.dep : Int)) = true := by simp; omega
    go_enter Tryd.func11, Tryd.ntmps11
    go_wp2_with fail
    refine (depth_any 1000000 (Nat.le_refl _) t _ _ _ hd hi).mono ?_
    rintro e w' ⟨rfl, rfl⟩
    go_wp2_with fail
    go_ret2
    exact ⟨by rw [HT.out, HR.out]; rfl, Below.refl _ _⟩

theorem itEncode_nil (w : World) :
    Calls Tryd.prog 11 #[.nilIface] w fun e w' => e = .returned (.tuple #[.string ⟨#[]⟩, .int .i64 6]) ∧ Below w.heap.size w w' := by
  go_enter Tryd.func11, Tryd.ntmps11
  go_wp2_with fail
  refine (depth_nil _).mono ?_
  rintro e w' ⟨rfl, rfl⟩
  go_wp2_with fail
  refine (encode_nil _ _).mono ?_
  rintro e w' ⟨rfl, rfl⟩
  go_wp2
  go_ret2
  exact ⟨rfl, (Below.refl _ _).alloc (Nat.le_refl _) _⟩

end Go.Proofs.YtkjekofllfkgoaaDoor
