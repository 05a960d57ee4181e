/- plumbobref04.Encode: the bytes of the nodes that made hands back. Conditions: the item's texts and lists are short. -/
import Derived.Test.YtkjekofllfkgoaaDoorMadePlain
import Derived.Test.YtkjekofllfkgoaaDoorOctRef
import Derived.Deep.RegionHeld3
namespace Go.Proofs.YtkjekofllfkgoaaDoor
open Go.RowKit

theorem refNum_fit (n z : Nat) (w : World) (h1 : 1 ≤ z) (h8 : z ≤ 8) (hn : n < 256 ^ z) :
    Calls Tryd.prog 25 #[.int .u64 n, .int .i64 z] w fun e w' => e = .returned (.string ⟨(bytesTo n z z).toArray⟩) ∧ Below w.heap.size w w' := by
  have hb : 256 ^ z ≤ 256 ^ 8 := Nat.pow_le_pow_right (by decide) h8
  have h8' : (256 : Nat) ^ 8 = 18446744073709551616 := by decide
  have h := refNum_in n z w (by omega) h1 h8
  rw [if_pos hn] at h
  exact h

/-- Where an item's nodes lie in a row of nodes. -/
def NdsAt (w : World) (g k : Nat) (xs : List Value) : Prop := g < w.heap.size ∧ ∀ (j : Nat) u, xs[j]? = some u → w.cell? ⟨g, k * 4 + j, none⟩ = some u
theorem NdsAt.old {w w' : World} {g k : Nat} {xs : List Value} (h : NdsAt w g k xs) (hb : Below w.heap.size w w') : NdsAt w' g k xs :=
  ⟨Nat.lt_of_lt_of_le h.1 hb.size, fun j u hj => (hb.cell (p := ⟨g, k * 4 + j, none⟩) h.1).trans (h.2 j u hj)⟩
theorem NdsAt.left {w : World} {g k : Nat} {xs ys : List Value} (h : NdsAt w g k (xs ++ ys)) : NdsAt w g k xs :=
  ⟨h.1, fun j u hj => h.2 j u (by
    have hlt : j < xs.length := by
      rcases Nat.lt_or_ge j xs.length with hlt | hge
      · exact hlt
      · rw [List.getElem?_eq_none hge] at hj; cases hj
    rw [List.getElem?_append_left hlt]; exact hj)⟩
theorem NdsAt.right {w : World} {g k n : Nat} {xs ys : List Value} (h : NdsAt w g k (xs ++ ys)) (hn : xs.length = n * 4) : NdsAt w g (k + n) ys :=
  ⟨h.1, fun j u hj => by
    have := h.2 (xs.length + j) u (by rw [List.getElem?_append_right (by omega)]; rw [Nat.add_sub_cancel_left]; exact hj)
    rw [show (k + n) * 4 + j = k * 4 + (xs.length + j) from by omega]; exact this⟩

/-- What is handed back. -/
def RefPost (t : IT) (k : Nat) (w : World) (e : Ending) (w' : World) : Prop := e = .returned (.tuple #[.string ⟨t.enc.toArray⟩, .int .i64 (k + t.cnt : Nat)]) ∧ Below w.heap.size w w'

theorem two_concat (a : UInt8) (l : List UInt8) (s : ByteArray) : (⟨#[a]⟩ : ByteArray) ++ ⟨l.toArray⟩ ++ s = ⟨(a :: (l ++ s.data.toList)).toArray⟩ := by
  have h1 := bytes_concat [a] l
  have h2 := bytes_concat ([a] ++ l) s.data.toList
  rw [← h1] at h2
  exact h2
theorem one_concat (a : UInt8) (l : List UInt8) : (⟨#[a]⟩ : ByteArray) ++ ⟨l.toArray⟩ = ⟨(a :: l).toArray⟩ := bytes_concat [a] l

set_option maxRecDepth 100000 in
set_option maxHeartbeats 1000000 in
theorem refEnc_num (g n cap k : Nat) (z : Int) (w : World) (hN : NdsAt w g k (nds (.num z))) (hk : k < n) (hk2 : n ≤ 1000) :
    Calls Tryd.prog 10 #[.slice (some ⟨g, 0, none⟩) n cap, .int .i64 k] w (RefPost (.num z) k w) := by
  rw [nds] at hN
  have c0 := hN.2 0 _ rfl
  have c1 := hN.2 1 _ rfl
  have c2 := hN.2 2 _ rfl
  have c3 := hN.2 3 _ rfl
  rw [Nat.add_zero] at c0
  have hu := u64_wrap z
  have Hlt := Lib.hid (u64n_lt z)
  have He := Lib.hid (show (IT.num z).enc = 1 :: bytesTo (u64n z) 8 8 by rw [IT.enc])
  generalize u64n z = m at hu Hlt He
  go_enter Tryd.func10, Tryd.ntmps10
  go_wp2_with fail
  refine (refNum_fit m 8 _ (by decide) (by decide) Hlt.out).mono ?_
  rintro e w1 ⟨rfl, hb⟩
  clear hu c0 c1 c2 c3
  go_wp2
  go_ret2
  refine ⟨by rw [He.out, IT.cnt, ← one_concat]; rfl, ((Below.refl _ _).alloc (Nat.le_refl _) _).trans (hb.mono (by simp))⟩

theorem keepS0 {w3 : World} {xb : Nat} {s : ByteArray} (c : w3.cell? ⟨xb, 2, none⟩ = some (.string s)) : w3.drew.cell? ⟨xb, 2, none⟩ = some (.string s) ∧ Below w3.heap.size w3 w3.drew :=
  ⟨c, rfl, rfl, rfl, Nat.le_refl _, fun _ _ => rfl⟩
theorem keepS1 {w3 w4 : World} {xb : Nat} {s : ByteArray} (c : w3.cell? ⟨xb, 2, none⟩ = some (.string s)) (hx : xb < w3.heap.size) (h : Below w3.drew.heap.size w3.drew w4) : w4.cell? ⟨xb, 2, none⟩ = some (.string s) ∧ Below w3.heap.size w3 w4 :=
  ⟨by rw [h.cell (p := ⟨xb, 2, none⟩) hx]; exact c, h.os, h.tape, h.output, h.size, h.block⟩

set_option maxRecDepth 100000 in
set_option maxHeartbeats 1000000 in
theorem refEnc_text (g n cap k : Nat) (s : ByteArray) (w : World) (hN : NdsAt w g k (nds (.text s))) (hk : k < n) (hk2 : n ≤ 1000) (hs : s.size ≤ 60000) :
    Calls Tryd.prog 10 #[.slice (some ⟨g, 0, none⟩) n cap, .int .i64 k] w (RefPost (.text s) k w) := by
  rw [nds] at hN
  have c0 := hN.2 0 _ rfl
  have c1 := hN.2 1 _ rfl
  have c2 := hN.2 2 _ rfl
  have c3 := hN.2 3 _ rfl
  rw [Nat.add_zero] at c0
  have He := Lib.hid (show (IT.text s).enc = 2 :: (bytesTo s.size 2 2 ++ s.data.toList) by rw [IT.enc])
  go_enter Tryd.func10, Tryd.ntmps10
  go_wp2_with fail
  have c2 : (w.alloc (.cells #[.int .i64 2, .int .i64 0, .string s, .int .i64 0] 58)).cell? ⟨w.heap.size, 2, none⟩ = some (.string s) := by rw [World.cell?_alloc_at _ _ _ _ rfl]; rfl
  have hlt : w.heap.size < (w.alloc (.cells #[.int .i64 2, .int .i64 0, .string s, .int .i64 0] 58)).heap.size := by simp
  have hb0 : Below w.heap.size w (w.alloc (.cells #[.int .i64 2, .int .i64 0, .string s, .int .i64 0] 58)) := (Below.refl _ _).alloc (Nat.le_refl _) _
  have Hb0 := Lib.hid hb0
  generalize (w.alloc (.cells #[.int .i64 2, .int .i64 0, .string s, .int .i64 0] 58)) = w3 at c2 hlt Hb0 ⊢
  have hz := hb0
  clear hz hb0 c0 c1 c3
  have hwu : IntKind.u64.wrap (s.size : Int) = s.size := wrap_u64 _ (by omega) (by omega)
  have hcall := Lib.hid (fun W => refNum_fit s.size 2 W (by decide) (by decide) (by omega))
  have hS0 := Lib.hid (keepS0 c2)
  have hS1 := Lib.hid (fun w4 => keepS1 (w4 := w4) c2 hlt)
  have hR : (ByteArray.mk (bytesTo s.size 2 2).toArray).size = 2 := bsize _ _ (bytesTo_le _ _ _)
  have Htc := Lib.hid (two_concat 2 (bytesTo s.size 2 2) s)
  generalize ByteArray.mk (bytesTo s.size 2 2).toArray = R at hR hcall Htc
  have hfit1 : ¬ (9223372036854775807 < 1 + R.size) := by omega
  have hfit2 : ¬ (9223372036854775807 < 1 + R.size + s.size) := by omega
  clear hR
  generalize hxb : w.heap.size = xb at c2 hlt Hb0 hS0 hS1 ⊢
  have Hxb := Lib.hid hxb
  clear hxb
  go_region_held3 (fun W => W.cell? ⟨xb, 2, none⟩ = some (.string s) ∧ Below w3.heap.size w3 W) (first | exact hS0.out | exact hS1.out _ (by assumption)) (first | (go_at_call 25; refine (hcall.out _).mono ?_; rintro r w4 ⟨rfl, hb4⟩))
  obtain ⟨_, hb3⟩ := hS1.out _ (by assumption)
  go_wp2
  go_ret2
  exact ⟨by rw [He.out, IT.cnt, ← Htc.out]; rfl, by rw [Hxb.out]; exact Hb0.out.trans (hb3.mono (by omega))⟩

theorem ndsL_at (q : List IT) (i : Nat) (t : IT) (h : q[i]? = some t) : ndsL q = ndsL (q.take i) ++ (nds t ++ ndsL (q.drop (i + 1))) := by
  induction q generalizing i with
  | nil => simp at h
  | cons x q ih =>
    cases i with
    | zero => simp at h; subst h; simp [ndsL]
    | succ i =>
      simp at h
      rw [List.take_succ_cons, List.drop_succ_cons, ndsL, ndsL, ih i h, List.append_assoc]
theorem cntL_take (q : List IT) (i : Nat) (t : IT) (h : q[i]? = some t) : cntL (q.take (i + 1)) = cntL (q.take i) + t.cnt ∧ cntL (q.take (i + 1)) ≤ cntL q := by
  induction q generalizing i with
  | nil => simp at h
  | cons x q ih =>
    cases i with
    | zero => simp at h; subst h; simp [cntL]
    | succ i =>
      simp at h
      rw [List.take_succ_cons, List.take_succ_cons, cntL, cntL, cntL]
      have := ih i h
      omega
theorem goodL_mem {l : List IT} (h : goodL l) : ∀ t ∈ l, t.good := by
  induction l with
  | nil => intro t ht; cases ht
  | cons x l ih =>
    rw [goodL] at h
    intro t ht
    rcases List.mem_cons.1 ht with rfl | ht
    · exact h.1
    · exact ih h.2 t ht

set_option maxRecDepth 100000 in
set_option maxHeartbeats 2000000 in
theorem refEnc_any (g n cap : Nat) (hn : n ≤ 1000) (m : Nat) : ∀ (t : IT) (k : Nat) (w : World), t.dep ≤ m → NdsAt w g k (nds t) → t.good → k + t.cnt ≤ n →
    Calls Tryd.prog 10 #[.slice (some ⟨g, 0, none⟩) n cap, .int .i64 k] w (RefPost t k w) := by
  induction m with
  | zero => intro t k w hd; cases t <;> simp [IT.dep] at hd
  | succ m ih =>
    intro t k w hd hN hg hk
    have hcp := cnt_pos t
    match t, hd, hN, hg, hk, hcp with
    | .num z, _, hN, _, hk, _ => exact refEnc_num g n cap k z w hN (by omega) hn
    | .text s, _, hN, hg, hk, _ => rw [IT.good] at hg; exact refEnc_text g n cap k s w hN (by omega) hn (by omega)
    | .list q, hd, hN, hg, hk, _ =>
      rw [IT.dep] at hd
      rw [IT.good] at hg
      obtain ⟨hq256, hgq⟩ := hg
      rw [IT.cnt] at hk
      rw [nds] at hN
      have HNq := Lib.hid (hN.right (n := 1) rfl)
      have c0 := hN.2 0 _ rfl
      have c1 := hN.2 1 _ rfl
      have c2 := hN.2 2 _ rfl
      have c3 := hN.2 3 _ rfl
      rw [Nat.add_zero] at c0
      have He := Lib.hid (show (IT.list q).enc = 3 :: (bytesTo q.length 2 2 ++ encL q) by rw [IT.enc])
      have Hg := Lib.hid (goodL_mem hgq)
      have Hlen := Lib.hid (goodL_enc q hgq)
      have hwu : IntKind.u64.wrap (q.length : Int) = q.length := wrap_u64 _ (by omega) (by omega)
      have hgw := hN.1
      clear hN hgq
      by_cases hq : q.length = 0
      · obtain rfl : q = [] := List.eq_nil_of_length_eq_zero hq
        have Hk := Lib.hid (show (IT.list []).cnt = 1 by rw [IT.cnt, cntL])
        have He0 := Lib.hid (show (IT.list []).enc = [3, 0, 0] by rw [He.out, encL]; decide +kernel)
        clear hwu
        have hwu : IntKind.u64.wrap ((0 : Nat) : Int) = ((0 : Nat) : Int) := by decide
        go_enter Tryd.func10, Tryd.ntmps10
        go_wp2_with fail
        refine (refNum_fit 0 2 _ (by decide) (by decide) (by decide)).mono ?_
        rintro e w1 ⟨rfl, hb⟩
        have d3 : w1.cell? ⟨w.heap.size, 3, none⟩ = some (.int .i64 0) := by
          rw [hb.cell (p := ⟨w.heap.size, 3, none⟩) (by simp), World.cell?_alloc_at _ _ _ _ rfl]; rfl
        have hb0 : Below w.heap.size w w1 := ((Below.refl _ _).alloc (Nat.le_refl _) _).trans (hb.mono (by simp))
        clear hwu c0 c1 c2 c3 hb
        go_wp2_with fail
        refine wp_loop_rounds 1 ?_
        rw [rounds_succ]
        go_wp2
        go_ret2
        exact ⟨by rw [He0.out, Hk.out]; rfl, hb0⟩
      · have hq0 : ((q.length : Int) == 0) = false := by rw [beq_eq_false_iff_ne]; omega
        go_enter Tryd.func10, Tryd.ntmps10
        go_wp2_with fail
        refine (refNum_fit q.length 2 _ (by decide) (by decide) (by omega)).mono ?_
        rintro e w1 ⟨rfl, hb⟩
        have d3 : w1.cell? ⟨w.heap.size, 3, none⟩ = some (.int .i64 q.length) := by
          rw [hb.cell (p := ⟨w.heap.size, 3, none⟩) (by simp), World.cell?_alloc_at _ _ _ _ rfl]; rfl
        have hb0 : Below w.heap.size w w1 := ((Below.refl _ _).alloc (Nat.le_refl _) _).trans (hb.mono (by simp))
        have hlt : w.heap.size < w1.heap.size := by have := hb.size; simp at this; omega
        have Hb0 := Lib.hid hb0
        clear hwu c0 c1 c2 c3 hb hb0
        go_wp2_with fail
        go_loopw [1, 7, 8] (fun at' s i W => ∃ j : Nat, j ≤ q.length ∧ i = .int .i64 j ∧ at' = .int .i64 ((k + 1 + cntL (q.take j) : Nat)) ∧ s = .string ⟨(3 :: (bytesTo q.length 2 2 ++ encL (q.take j))).toArray⟩ ∧ Below w1.heap.size w1 W) (fun _ _ i _ => q.length - (intOf i).toNat)
        case atStart => exact ⟨0, Nat.zero_le _, rfl, by simp [cntL], by rw [one_concat]; simp [encL], Below.refl _ _⟩
        case round =>
          obtain ⟨j, hj, rfl, rfl, rfl, hb⟩ := hrel
          have d3 : wr.cell? ⟨w.heap.size, 3, none⟩ = some (.int .i64 q.length) := (hb.cell (p := ⟨w.heap.size, 3, none⟩) hlt).trans d3
          by_cases hjl : j < q.length
          · have hx : q[j]? = some q[j] := List.getElem?_eq_getElem hjl
            have hmem : q[j] ∈ q := List.getElem_mem hjl
            generalize q[j] = t at hx hmem
            have hc := cntL_take q j t hx
            have Hen := Lib.hid (encL_take q j t hx)
            have Hna := Lib.hid (ndsL_at q j t hx)
            have htd := dep_mem hmem
            have hN1 : NdsAt wr g (k + 1 + cntL (q.take j)) (nds t) := by
              have h1 := HNq.out
              rw [Hna.out] at h1
              exact ((h1.right (ndsL_len _)).left.old Hb0.out).old hb
            have Hc := Lib.hid hc.1
            have hle : cntL (q.take j) + t.cnt ≤ cntL q := by omega
            have HN1 := Lib.hid hN1
            clear hc hN1
            generalize cntL (q.take j) = cj at hle HN1 Hc ⊢
            go_wp2_with fail
            refine (ih t _ _ (by omega) HN1.out (Hg.out t hmem) (by omega)).mono ?_
            rintro e w2 ⟨rfl, hb2⟩
            have hb2 := hb.trans (hb2.mono hb.size)
            have hcat := Lib.hid (bytes_concat (3 :: (bytesTo q.length 2 2 ++ encL (q.take j))) t.enc)
            have hfit : ¬ (9223372036854775807 < (3 :: (bytesTo q.length 2 2 ++ encL (q.take j))).length + t.enc.length) := by
              have h1 := encL_take_le q (j + 1)
              have h2 := Hlen.out
              rw [Hen.out, List.length_append] at h1
              simp [bytesTo_le]; omega
            have Hen2 := Lib.hid (show 3 :: (bytesTo q.length 2 2 ++ encL (q.take (j + 1))) = 3 :: (bytesTo q.length 2 2 ++ encL (q.take j)) ++ t.enc by rw [Hen.out, List.cons_append, List.append_assoc])
            generalize 3 :: (bytesTo q.length 2 2 ++ encL (q.take j)) = L at hcat hfit Hen2 ⊢
            generalize t.enc = E at hcat hfit Hen2 ⊢
            clear d3 Hen
            go_wp2
            go_roundw
            case rel => exact ⟨j + 1, by omega, by go_num, by rw [Hc.out]; exact val_int (by omega), by rw [hcat.out, Hen2.out], hb2⟩
            case measure => simp [intOf]; omega
          · obtain rfl : j = q.length := by omega
            rw [List.take_length]
            go_wp2
            go_ret2
            refine ⟨by rw [He.out, IT.cnt, show k + (cntL q + 1) = k + 1 + cntL q from by omega]; rfl, Hb0.out.trans (hb.mono (by omega))⟩

end Go.Proofs.YtkjekofllfkgoaaDoor
