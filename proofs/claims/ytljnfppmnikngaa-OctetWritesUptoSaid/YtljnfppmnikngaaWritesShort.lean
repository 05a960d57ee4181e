/- OctetWrites' walk over at most twelve parts. Printed by genwrites.py. Conditions: the texts are of 1048576 bytes at most. -/
import Derived.Test.YtljnfppmnikngaaWritesMem

import Derived.Deep.RegionHeld3
import Derived.WalkKit
namespace Go.Proofs.Ytljnfppmnikngaa.octetWrites
open Go.ChangeShapes Go.WideShapes Go.ChangeAt Go.RowKit
set_option linter.unusedVariables false

set_option maxHeartbeats 8000000 in
set_option maxRecDepth 100000 in
theorem walk_short (a : Option Addr) (len cap : Nat) (ps : List PartV) (w : World) (hP : PartsAt w (.slice a len cap) ps) (hl : ps.length = len) (hB : ∀ p ∈ ps, p.ok ∧ p.text.size ≤ 1048576) (h12 : len ≤ 12) (hcap : len ≤ cap) :
    Calls Try.prog 4 #[.slice a len cap] w fun e w' => e = .returned (.bool true) ∧ Below w.heap.size w w' := by
  have h12' : decide ((len : Int) ≤ 12) = true := by simp; omega
  have HP := Lib.hid hP
  have HL := Lib.hid hl
  have HB := Lib.hid hB
  clear hP hl hB
  go_enter Try.func4, Try.ntmps4
  go_wp2_with fail
  refine (speaks_any _).mono ?_
  rintro e w1 ⟨rfl, hb1⟩
  go_wp2_with fail
  have hge : w.heap.size ≤ w1.heap.size := hb1.size
  have hI := inv_zero w w1 hb1
  generalize (w1.alloc (.cells #[.pointer none, .slice none 0 0, .int .i64 0] 40)) = w2 at hI ⊢
  generalize w1.heap.size = b at hI hge ⊢
  clear hb1
  go_loopw [4, 5, 6] (fun wa ba i W => ∃ (k : Nat) (L l : List UInt8) (B : Int) (v : Value), k ≤ len ∧ i = .int .i64 k ∧ wa = .string ⟨L.toArray⟩ ∧ ba = .int .i64 B ∧ Inv w W b v (ps.take k) L l B) (fun _ _ i _ => len - (intOf i).toNat)
  case atStart => exact ⟨0, [], [], 0, _, Nat.zero_le _, rfl, rfl, rfl, hI⟩
  case round =>
    obtain ⟨k, L, l, B, v, hk, rfl, rfl, rfl, hI⟩ := hrel
    by_cases hlt : k < len
    · have hkp : k < ps.length := by have := HL.out; omega
      obtain ⟨a', cap', hv, _, hPk⟩ := HP.out.touch hI.touch (fun _ h => h.elim)
      injection hv with h1 h2 h3
      clear h2 h3
      subst h1
      obtain ⟨bb, off, rfl, hbb, hr⟩ := hPk k ps[k] (by simp [hkp])
      have hnx : Hid (ps.take (k + 1) = ps.take k ++ [ps[k]]) := by rw [Hid, List.take_add_one, List.getElem?_eq_getElem hkp]; rfl
      obtain ⟨hok, hsz⟩ := HB.out ps[k] (List.getElem_mem hkp)
      have hql : (ps.take k).length ≤ 12 := by rw [List.length_take]; omega
      generalize ps[k] = p at hr hnx hok hsz
      generalize ps.take k = qs at hI hnx hql
      have c0 := hr 0 _ rfl
      have c1 := hr 1 _ rfl
      have c2 := hr 2 _ rfl
      have c3 := hr 3 _ rfl
      rw [Nat.add_zero] at c0
      clear hr hPk hkp
      obtain ⟨_, hn, _, hs⟩ := hok
      have hll : l.length ≤ 12582972 * 2 := by have h1 := hI.le; have h2 := hI.len; omega
      have HLL := Lib.hid hll
      have HLL2 := Lib.hid (show L.length ≤ 12582972 * 2 by have h2 := hI.len; omega)
      have HSZ := Lib.hid hsz
      have HN := Lib.hid hn
      have HS := Lib.hid hs
      have HQL := Lib.hid hql
      clear hll hsz hn hs hql
      cases h0 : (wrap64 (p.what.tmod 3 + 3)).tmod 3 == 0
      · cases h1 : (wrap64 (p.what.tmod 3 + 3)).tmod 3 == 1
        · go_wp2_with fail
          refine (wrFixed_any b p.text p.size _ v l B (wr_alloc hI.wr _) (by have h1 := HLL.out; have h2 := HSZ.out; omega)).mono ?_
          rintro r w3 ⟨rfl, v', hW3, hT3, hN3⟩
          have hx := x_stays hI.wr hT3
          have hnext := wf_next hI hge HSZ.out h0 h1 hW3 hT3 hN3
          rw [← hnx.out] at hnext
          clear hI hW3 hT3 hN3
          generalize wr.heap.size = xb at hx ⊢
          obtain ⟨c0, c1, c2, c3⟩ := x_cells hx
          have HX := Lib.hid hx
          clear hx hnx
          have hok : ((p.text.size : Int) != p.size) = !(okFixed p.text p.size) := rfl
          generalize wfL l B p.text p.size = l' at hnext
          generalize okFixed p.text p.size = ok at hok hnext
          by_cases hB0 : B = 0
          · subst hB0
            rw [if_pos rfl, if_pos rfl] at hnext
            have hfit : ¬ (9223372036854775807 < L.length + p.text.size) := by have h1 := HLL2.out; have h2 := HSZ.out; omega
            cases ok
            · rw [Bool.not_false] at hok
              go_wp2
              go_roundw
              case rel => exact ⟨k + 1, _, _, _, _, by omega, by go_num, by rw [← bytesV_flat, data_mk], rfl, hnext⟩
              case measure => simp [intOf]; omega
            · rw [Bool.not_true] at hok
              go_wp2
              go_roundw
              case rel => exact ⟨k + 1, _, _, _, _, by omega, by go_num, by rw [← bytesV_flat, data_mk], rfl, hnext⟩
              case measure => simp [intOf]; omega
          · rw [if_neg hB0, if_neg hB0] at hnext
            have hbq := beq_eq_false_iff_ne.2 hB0
            clear hB0
            cases ok
            · rw [Bool.not_false] at hok
              go_wp2
              go_roundw
              case rel => exact ⟨k + 1, _, _, _, _, by omega, by go_num, rfl, rfl, hnext⟩
              case measure => simp [intOf]; omega
            · rw [Bool.not_true] at hok
              go_wp2
              go_roundw
              case rel => exact ⟨k + 1, _, _, _, _, by omega, by go_num, rfl, rfl, hnext⟩
              case measure => simp [intOf]; omega
        · go_wp2_with fail
          refine (wrText_any b p.text _ v l B (wr_alloc hI.wr _) HS.out (by have h1 := HLL.out; omega)).mono ?_
          rintro r w3 ⟨rfl, v', hW3, hT3, hN3⟩
          have hx := x_stays hI.wr hT3
          have hnext := Lib.hid (fun w4 (hb : Below w3.heap.size w3 w4) => wt_next (w4 := w4) hI hge HSZ.out h0 h1 hW3 hT3 hN3 hb)
          clear hI hW3 hT3 hN3
          have hlx : wr.heap.size < w3.heap.size := (Array.getElem?_eq_some_iff.1 hx).1
          generalize wr.heap.size = xb at hx hlx ⊢
          obtain ⟨c0, c1, c2, c3⟩ := x_cells hx
          clear c0 c1 c2
          have hR := refR p.text.size 2
          obtain ⟨R, HR⟩ : ∃ R : ByteArray, Hid (ByteArray.mk (refBytes p.text.size 2).toArray = R) := ⟨_, rfl⟩
          rw [show ByteArray.mk (refBytes p.text.size 2).toArray = R from HR] at hR
          have hok : decide (4096 < (p.text.size : Int)) = !(okText p.text) := ok_text p.text
          have hw : IntKind.u64.wrap (p.text.size : Int) = p.text.size := wrap_u64 _ (by omega) (by have := HSZ.out; omega)
          generalize wtL l B p.text = l' at hnext
          generalize okText p.text = ok at hok hnext
          have hfit1 : ¬ (9223372036854775807 < R.size + p.text.size) := by have h2 := HSZ.out; omega
          have hfit : ¬ (9223372036854775807 < L.length + (R.size + p.text.size)) := by have h1 := HLL2.out; have h2 := HSZ.out; omega
          have hcall := refNum_R p.text.size 2 R HR (by have := HSZ.out; omega)
          have hS0 := Lib.hid (keep0 c3)
          have hS1 := Lib.hid (fun w4 => keep1 (w4 := w4) c3 hlx)
          clear hR
          go_wp2_with fail
          go_region_held3 (fun W => W.cell? ⟨xb, 3, none⟩ = some (.string p.text) ∧ Below w3.heap.size w3 W) (first | exact hS0.out | exact hS1.out _ (by assumption)) (first | (go_at_call 14; refine (hcall _).mono ?_; rintro r w4 ⟨rfl, hb4⟩))
          obtain ⟨c3, hb3⟩ := hS1.out _ (by assumption)
          replace hnext := hnext.out _ hb3
          rw [← hnx.out] at hnext
          clear hnx hS0 hS1 hcall hfit1
          by_cases hB0 : B = 0
          · subst hB0
            rw [if_pos rfl, if_pos rfl] at hnext
            cases ok
            · rw [Bool.not_false] at hok
              go_wp2
              go_roundw
              case rel => exact ⟨k + 1, _, _, _, _, by omega, by go_num, by rw [← bytesV_flat, ← bytesV_flat, data_mk, ← show ByteArray.mk (refBytes p.text.size 2).toArray = R from HR], rfl, hnext⟩
              case measure => simp [intOf]; omega
            · rw [Bool.not_true] at hok
              go_wp2
              go_roundw
              case rel => exact ⟨k + 1, _, _, _, _, by omega, by go_num, by rw [← bytesV_flat, ← bytesV_flat, data_mk, ← show ByteArray.mk (refBytes p.text.size 2).toArray = R from HR], rfl, hnext⟩
              case measure => simp [intOf]; omega
          · rw [if_neg hB0, if_neg hB0] at hnext
            have hbq := beq_eq_false_iff_ne.2 hB0
            clear hB0
            cases ok
            · rw [Bool.not_false] at hok
              go_wp2
              go_roundw
              case rel => exact ⟨k + 1, _, _, _, _, by omega, by go_num, rfl, rfl, hnext⟩
              case measure => simp [intOf]; omega
            · rw [Bool.not_true] at hok
              go_wp2
              go_roundw
              case rel => exact ⟨k + 1, _, _, _, _, by omega, by go_num, rfl, rfl, hnext⟩
              case measure => simp [intOf]; omega
      · go_wp2_with fail
        refine (wrNum_any b p.n p.size _ v l B (wr_alloc hI.wr _) HN.out (by have h1 := HLL.out; omega)).mono ?_
        rintro r w3 ⟨rfl, v', hW3, hT3, hN3⟩
        have hx := x_stays hI.wr hT3
        have hnext := Lib.hid (fun w4 (hb : Below w3.heap.size w3 w4) => wn_next (w4 := w4) hI hge HSZ.out h0 hW3 hT3 hN3 hb)
        clear hI hW3 hT3 hN3
        generalize wr.heap.size = xb at hx ⊢
        obtain ⟨c0, c1, c2, c3⟩ := x_cells hx
        clear c0 c3
        have hR := refR p.n p.size
        have hE := ref_empty p.n p.size HN.out
        obtain ⟨R, HR⟩ : ∃ R : ByteArray, Hid (ByteArray.mk (refBytes p.n p.size).toArray = R) := ⟨_, rfl⟩
        rw [show ByteArray.mk (refBytes p.n p.size).toArray = R from HR] at hR hE
        have hcall := refNum_R p.n p.size R HR HN.out
        generalize wnL l B p.n p.size = l' at hnext
        generalize okNum p.n p.size = ok at hE hnext
        have hfit : ¬ (9223372036854775807 < L.length + R.size) := by have h1 := HLL2.out; omega
        clear hR
        have HE := Lib.hid hE
        clear hE
        go_wp2_with fail
        refine (hcall _).mono ?_
        rintro r w4 ⟨rfl, hb4⟩
        replace hnext := hnext.out _ hb4
        rw [← hnx.out] at hnext
        clear hnx hcall
        by_cases hB0 : B = 0
        · subst hB0
          rw [if_pos rfl, if_pos rfl] at hnext
          cases ok
          · have hE := HE.out
            rw [Bool.not_false] at hE
            go_wp2
            go_roundw
            case rel => exact ⟨k + 1, _, _, _, _, by omega, by go_num, by rw [← bytesV_flat, ← show ByteArray.mk (refBytes p.n p.size).toArray = R from HR], rfl, hnext⟩
            case measure => simp [intOf]; omega
          · have hE := HE.out
            rw [Bool.not_true] at hE
            go_wp2
            go_roundw
            case rel => exact ⟨k + 1, _, _, _, _, by omega, by go_num, by rw [← bytesV_flat, ← show ByteArray.mk (refBytes p.n p.size).toArray = R from HR], rfl, hnext⟩
            case measure => simp [intOf]; omega
        · rw [if_neg hB0, if_neg hB0] at hnext
          have hbq := beq_eq_false_iff_ne.2 hB0
          clear hB0
          cases ok
          · have hE := HE.out
            rw [Bool.not_false] at hE
            go_wp2
            go_roundw
            case rel => exact ⟨k + 1, _, _, _, _, by omega, by go_num, rfl, rfl, hnext⟩
            case measure => simp [intOf]; omega
          · have hE := HE.out
            rw [Bool.not_true] at hE
            go_wp2
            go_roundw
            case rel => exact ⟨k + 1, _, _, _, _, by omega, by go_num, rfl, rfl, hnext⟩
            case measure => simp [intOf]; omega
    · obtain rfl : len = k := by omega
      have hpk : ps.take len = ps := List.take_of_length_le (by have := HL.out; omega)
      rw [hpk] at hI
      clear hpk hk hlt
      by_cases hB0 : B = 0
      · subst hB0
        obtain ⟨_, hgood, hLp⟩ := acc_good ps ([], 0) (by have := hI.acc; unfold accP at this; rw [this])
        have hLp : L = ps.flatMap pS := by have := hI.acc; unfold accP at this; rw [this] at hLp; simpa using hLp
        obtain rfl := hI.same rfl
        have HG := Lib.hid hgood
        have HLP := Lib.hid hLp
        have hwr := hI.wr
        have hown := hI.own
        have hT := hI.touch
        clear hgood hLp hI
        go_wp2_with fail
        refine (wrBytes_any b _ v l 0 hwr).mono ?_
        rintro r w3 ⟨rfl, ht3⟩
        rw [show wbT l 0 = ⟨l.toArray⟩ from if_pos rfl]
        replace hT : Touch (fun _ => False) w w3 := hT.then ht3 (bus_ge hge hown)
        clear ht3 hown hwr hge
        go_wp2_with fail
        refine (read_any _ _).mono ?_
        rintro r w4 ⟨rfl, hr4, ht4⟩
        have hge : w.heap.size ≤ w3.heap.size := hT.size
        replace hT := hT.trans ht4
        clear ht4
        generalize w3.heap.size = rb at hr4 hge ⊢
        go_wp2_with fail
        go_loopw [13] (fun i W => ∃ k : Nat, k ≤ len ∧ i = .int .i64 k ∧ Rd W rb ⟨((ps.drop k).flatMap pS).toArray⟩ 0 ∧ Touch (fun _ => False) w W) (fun i _ => len - (intOf i).toNat)
        case atStart => exact ⟨0, Nat.zero_le _, rfl, by rw [List.drop_zero, ← HLP.out]; exact hr4, hT⟩
        case round =>
          obtain ⟨k, hk, rfl, hr, hT⟩ := hrel
          by_cases hlt : k < len
          · have hkp : k < ps.length := by have := HL.out; omega
            obtain ⟨a', cap', hv, _, hPk⟩ := HP.out.touch hT (fun _ h => h.elim)
            injection hv with h1 h2 h3
            clear h2 h3
            subst h1
            obtain ⟨bb, off, rfl, hbb, hcs⟩ := hPk k ps[k] (by simp [hkp])
            have hdr : ps.drop k = ps[k] :: ps.drop (k + 1) := List.drop_eq_getElem_cons hkp
            rw [hdr, List.flatMap_cons] at hr
            have hpe := HG.out ps[k] (List.getElem_mem hkp)
            generalize ps[k] = p at hcs hr hpe
            obtain ⟨rest, hrest⟩ : ∃ rest, Hid (((ps.drop (k + 1)).flatMap pS) = rest) := ⟨_, rfl⟩
            rw [show ((ps.drop (k + 1)).flatMap pS) = rest from hrest] at hr
            clear hdr
            have c0 := hcs 0 _ rfl
            have c1 := hcs 1 _ rfl
            have c2 := hcs 2 _ rfl
            have c3 := hcs 3 _ rfl
            rw [Nat.add_zero] at c0
            clear hcs hPk hkp
            have hx : (wr.alloc (rowO p)).heap[wr.heap.size]? = some (rowO p) := heap_alloc_new _ _
            have hne : ¬ wr.heap.size = rb := by have := rd_lt hr; omega
            have hr1 := rd_alloc hr (rowO p)
            have hT1 : Touch (fun _ => False) w (wr.alloc (rowO p)) := hT.trans (Touch.alloc _ _)
            have HX := Lib.hid hx
            have HT1 := Lib.hid hT1
            have hS0 := Lib.hid (xs_drew hx)
            have hS1 := Lib.hid (fun w' => xs_touch (w' := w') hx hne)
            have HR1 := Lib.hid hr1
            clear hx hr1 hT1 hr
            cases h0 : (wrap64 (p.what.tmod 3 + 3)).tmod 3 == 0
            · cases h1 : (wrap64 (p.what.tmod 3 + 3)).tmod 3 == 1
              · have hcall := rd_fixed HR1.out h0 h1 hpe
                go_wp2_with fail
                go_region_held3 (fun W => W.cell? ⟨wr.heap.size, 1, none⟩ = some (.int .u64 p.n) ∧ W.cell? ⟨wr.heap.size, 2, none⟩ = some (.int .i64 p.size) ∧ W.cell? ⟨wr.heap.size, 3, none⟩ = some (.string p.text)) (first | exact hS0.out | exact hS1.out _ (by assumption)) (first | (go_at_call 11; refine hcall.mono ?_; rintro r w5 ⟨rfl, hr5, ht5⟩))
                have hr6 := hr5
                have ht6 := HT1.out.then ht5 (fun i hi => .inr (by rw [hi]; exact hge))
                go_wp2
                go_roundw
                case rel => exact ⟨k + 1, by omega, by go_num, by rw [show ((ps.drop (k + 1)).flatMap pS) = rest from hrest]; exact hr6, ht6⟩
                case measure => simp [intOf]; omega
              · have hcall := rd_text HR1.out h0 h1 hpe
                go_wp2_with fail
                go_region_held3 (fun W => W.cell? ⟨wr.heap.size, 1, none⟩ = some (.int .u64 p.n) ∧ W.cell? ⟨wr.heap.size, 2, none⟩ = some (.int .i64 p.size) ∧ W.cell? ⟨wr.heap.size, 3, none⟩ = some (.string p.text)) (first | exact hS0.out | exact hS1.out _ (by assumption)) (first | (go_at_call 9; refine hcall.mono ?_; rintro r w5 ⟨rfl, hr5, ht5⟩))
                have hr6 := hr5
                have ht6 := HT1.out.then ht5 (fun i hi => .inr (by rw [hi]; exact hge))
                go_wp2
                go_roundw
                case rel => exact ⟨k + 1, by omega, by go_num, by rw [show ((ps.drop (k + 1)).flatMap pS) = rest from hrest]; exact hr6, ht6⟩
                case measure => simp [intOf]; omega
            · have hcall := rd_num HR1.out h0 hpe
              go_wp2_with fail
              go_region_held3 (fun W => W.cell? ⟨wr.heap.size, 1, none⟩ = some (.int .u64 p.n) ∧ W.cell? ⟨wr.heap.size, 2, none⟩ = some (.int .i64 p.size) ∧ W.cell? ⟨wr.heap.size, 3, none⟩ = some (.string p.text)) (first | exact hS0.out | exact hS1.out _ (by assumption)) (first | (go_at_call 8; refine hcall.mono ?_; rintro r w5 ⟨rfl, hr5, ht5⟩))
              have hr6 := hr5
              have ht6 := HT1.out.then ht5 (fun i hi => .inr (by rw [hi]; exact hge))
              go_wp2
              go_roundw
              case rel => exact ⟨k + 1, by omega, by go_num, by rw [show ((ps.drop (k + 1)).flatMap pS) = rest from hrest]; exact hr6, ht6⟩
              case measure => simp [intOf]; omega
          · obtain rfl : len = k := by omega
            rw [List.drop_of_length_le (by have := HL.out; omega)] at hr
            go_wp2_with fail
            have hr : Rd wr rb ⟨#[]⟩ 0 := hr
            refine (end_any rb _ _ _ hr).mono ?_
            rintro r w' ⟨rfl, rfl⟩
            rw [k_end]
            go_wp2_with fail
            refine (left_any rb _ _ _ hr).mono ?_
            rintro r w' ⟨rfl, rfl⟩
            rw [show (((ByteArray.mk #[]).size : Nat) : Int) = 0 from rfl]
            go_wp2
            go_ret
            exact ⟨rfl, hT.below (fun _ h => h.elim) (Nat.le_refl _)⟩
      · have hbq := bne_iff_ne.2 hB0
        have hwr := hI.wr
        have hown := hI.own
        have hT := hI.touch
        go_wp2_with fail
        refine (wrBytes_any b _ v l B hwr).mono ?_
        rintro r w3 ⟨rfl, ht3⟩
        rw [show wbT l B = ⟨#[]⟩ from if_neg hB0]
        replace hT : Touch (fun _ => False) w w3 := hT.then ht3 (bus_ge hge hown)
        clear ht3 hown hwr hge hI hB0
        go_wp2
        go_ret
        exact ⟨by simp, hT.below (fun _ h => h.elim) (Nat.le_refl _)⟩
end Go.Proofs.Ytljnfppmnikngaa.octetWrites
