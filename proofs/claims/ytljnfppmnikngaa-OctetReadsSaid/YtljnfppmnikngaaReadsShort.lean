/- The walk of plumboblaw02.OctetReads where the text has at most 200 bytes. Conditions: that. -/
import Derived.Test.YtljnfppmnikngaaSpeaks02
import Derived.Test.YtljnfppmnikngaaRdFacts
import Derived.Test.YtljnfppmnikngaaOpen
import Derived.Test.YtljnfppmnikngaaRows
import Derived.WalkKit
import Derived.WalkSpells
import Derived.ProofKit
import Derived.OpenShut
import Derived.ShutString
import Derived.ChangeOld
import Derived.Below
namespace Go.Proofs.Ytljnfppmnikngaa.octetReads
open Go.ChangeShapes Go.WideShapes Go.ChangeAt Go.RowKit
open Go.ChangeMaps (open_string shut_string)
set_option linter.unusedVariables false

theorem own : ownKnob Try.prog.godebug = none := by kernel_rfl
theorem laidOut : laidOutB Try.prog = true := by kernel_rfl

theorem slice_mid (s : ByteArray) (m : Nat) (h : 2 + m ≤ s.size) (w : World) : (Instr.slice 9 (.string s) (some (.int .i64 2)) (some (.int .i64 (2 + (m : Int)))) none).run Try.prog w = .ok (.string (s.extract 2 (2 + m))) w := by
  rw [run_slice_string_if _ _ _ _ _ _ _ Try.underlying9, if_pos ⟨by omega, by omega⟩, if_pos ⟨by omega, by omega⟩, show (2 + (m : Int)).toNat = 2 + m from by omega]
  rfl

set_option maxHeartbeats 8000000 in
set_option maxRecDepth 100000 in
theorem walk_short (s : ByteArray) (h200 : s.size ≤ 200) (a : Option Addr) (len cap : Nat) (zs : List Int) (zl : zs.length = len) (w : World) (hC : Cells w (.slice a len cap) (ints zs)) (hwz : ∀ z ∈ zs, (Lit.int .i64 z).wf = true) :
    Calls Try.prog 3 #[.string s, .slice a len cap] w fun e w' => e = .returned (.bool true) ∧ Below w.heap.size w w' := by
  have Hl := Lib.hid zl
  have HW := Lib.hid hwz
  clear zl hwz
  go_enter Try.func3, Try.ntmps3
  go_wp2_with fail
  refine (speaks_any _).mono ?_
  rintro e w1 ⟨rfl, hb1⟩
  go_wp2_with fail
  have HC := Lib.hid hC
  clear hC
  have hts := h200
  refine (read_any s _).mono ?_
  rintro r w2 ⟨rfl, hr2, ht2⟩
  have hge : w.heap.size ≤ w1.heap.size := hb1.size
  have hlt := lt_of_heap hr2
  have hT : Touch (fun _ => False) w w2 := (Touch.of_below hb1 _).trans ht2
  clear hb1 ht2
  generalize w1.heap.size = rb at hr2 hge hlt ⊢
  go_wp2_with fail
  go_loopw [6, 7, 8] (fun r b i W => ∃ (k : Nat) (rest sr : ByteArray) (bd : Int), k ≤ len ∧ k ≤ 20 ∧ i = .int .i64 k ∧ r = .string rest ∧ b = .int .i64 bd ∧ Rd W rb sr bd ∧ (bd = 0 → sr = rest) ∧ rest.size ≤ 200 ∧ Touch (fun _ => False) w W ) (fun _ _ i _ => 20 - (intOf i).toNat)
  case atStart => exact ⟨0, s, s, 0, Nat.zero_le _, Nat.zero_le _, rfl, rfl, rfl, hr2, fun _ => rfl, hts, hT⟩
  case round =>
    obtain ⟨k, rest, sr, bd, hk1, hk2, rfl, rfl, rfl, hr, hsr, hrs, ht⟩ := hrel
    by_cases hlt2 : k < len ∧ k < 20
    · obtain ⟨g1, g2⟩ := hlt2
      obtain ⟨bb, oo, ha, _, hcell⟩ := (ht.cells HC.out (fun _ _ h => h)).int_at k g1
      subst ha
      have hxb := bounds_i64 (HW.out (zs.getD k 0) (by have := Hl.out; rw [List.getD_eq_getElem?_getD, List.getElem?_eq_getElem (by omega)]; exact List.getElem_mem (by omega)))
      generalize zs.getD k 0 = x at hcell hxb
      have HB2 := Lib.hid hxb
      clear hxb
      by_cases hx9 : x < 9
      · by_cases hx1 : x < 1
        · by_cases hb0 : bd = 0
          · subst hb0
            obtain rfl := hsr rfl
            obtain ⟨f1, f2, f3⟩ := num_lt1 sr 0 x (.inl hx1)
            go_wp2_with fail
            refine (rdNum_any rb _ _ _ _ hr).mono ?_
            rintro r w6 ⟨rfl, hr6, ht6⟩
            replace ht6 := ht.then ht6 (fun i hi => .inr (by rw [hi]; exact hge))
            rw [f2, f3] at hr6
            rw [f1]
            go_wp2
            go_roundw
            case rel => exact ⟨k + 1, sr, sr, 4, by omega, by omega, by go_num, rfl, rfl, hr6, (fun h => by cases h), hrs, ht6⟩
            case measure => simp [intOf]; omega
          · obtain ⟨f1, f2, f3⟩ := num_lt1 sr bd x (.inl hx1)
            rw [show rdForm bd = bd from if_neg hb0] at f3
            have hb := beq_eq_false_iff_ne.2 hb0
            have HB := Lib.hid hb0
            clear hb0
            go_wp2_with fail
            refine (rdNum_any rb _ _ _ _ hr).mono ?_
            rintro r w6 ⟨rfl, hr6, ht6⟩
            replace ht6 := ht.then ht6 (fun i hi => .inr (by rw [hi]; exact hge))
            rw [f2, f3] at hr6
            rw [f1]
            go_wp2
            go_roundw
            case rel => exact ⟨k + 1, rest, sr, bd, by omega, by omega, by go_num, rfl, rfl, hr6, (fun h => absurd h HB.out), hrs, ht6⟩
            case measure => simp [intOf]; omega
        · obtain ⟨m, rfl⟩ := Int.eq_ofNat_of_zero_le (show 0 ≤ x by omega)
          by_cases hb0 : bd = 0
          · subst hb0
            obtain rfl := hsr rfl
            by_cases hfit : m ≤ sr.size
            · obtain ⟨f1, f2, f3⟩ := num_fit sr m (by omega) (by omega) hfit
              have hz : (sr.extract 0 m).size ≤ 8 := by rw [ByteArray.size_extract]; omega
              have hz2 : (sr.extract m sr.size).size ≤ 200 := by rw [ByteArray.size_extract]; omega
              obtain ⟨q, hq⟩ : ∃ q, q = numTo (sr.extract 0 m) (sr.extract 0 m).size := ⟨_, rfl⟩
              rw [← hq] at f1
              have HQ := Lib.hid hq
              clear hq
              go_wp2_with fail
              refine (rdNum_any rb _ _ _ _ hr).mono ?_
              rintro r w6 ⟨rfl, hr6, ht6⟩
              replace ht6 := ht.then ht6 (fun i hi => .inr (by rw [hi]; exact hge))
              rw [f2, f3] at hr6
              rw [f1]
              clear f1 f2 f3
              go_wp2_with fail
              refine (refGet_any (sr.extract 0 m) _ hz).mono ?_
              rintro r w' ⟨rfl, rfl⟩
              rw [← HQ.out]
              go_wp2
              go_roundw
              case rel => exact ⟨k + 1, (sr.extract m sr.size), (sr.extract m sr.size), 0, by omega, by omega, by go_num, rfl, rfl, hr6, (fun _ => rfl), hz2, ht6⟩
              case measure => simp [intOf]; omega
            · obtain ⟨f1, f2, f3⟩ := num_short sr m (by omega) (by omega) (by omega)
              go_wp2_with fail
              refine (rdNum_any rb _ _ _ _ hr).mono ?_
              rintro r w6 ⟨rfl, hr6, ht6⟩
              replace ht6 := ht.then ht6 (fun i hi => .inr (by rw [hi]; exact hge))
              rw [f2, f3] at hr6
              rw [f1]
              clear f1 f2 f3
              go_wp2
              go_roundw
              case rel => exact ⟨k + 1, sr, sr, 3, by omega, by omega, by go_num, rfl, rfl, hr6, (fun h => by cases h), hrs, ht6⟩
              case measure => simp [intOf]; omega
          · obtain ⟨f1, f2, f3⟩ := num_bad sr bd m (by omega) (by omega) hb0
            have hb := beq_eq_false_iff_ne.2 hb0
            have HB := Lib.hid hb0
            clear hb0
            go_wp2_with fail
            refine (rdNum_any rb _ _ _ _ hr).mono ?_
            rintro r w6 ⟨rfl, hr6, ht6⟩
            replace ht6 := ht.then ht6 (fun i hi => .inr (by rw [hi]; exact hge))
            rw [f2, f3] at hr6
            rw [f1]
            clear f1 f2 f3
            by_cases hfit : (m : Int) > rest.size
            · go_wp2
              go_roundw
              case rel => exact ⟨k + 1, rest, sr, bd, by omega, by omega, by go_num, rfl, rfl, hr6, (fun h => absurd h HB.out), hrs, ht6⟩
              case measure => simp [intOf]; omega
            · go_wp2
              go_roundw
              case rel => exact ⟨k + 1, rest, sr, bd, by omega, by omega, by go_num, rfl, rfl, hr6, (fun h => absurd h HB.out), hrs, ht6⟩
              case measure => simp [intOf]; omega
      · by_cases hx99 : x = 9
        · subst hx99
          clear hx9
          by_cases hb0 : bd = 0
          · subst hb0
            obtain rfl := hsr rfl
            by_cases h2 : 2 ≤ sr.size
            · have hz : (sr.extract 0 2).size ≤ 8 := by rw [ByteArray.size_extract]; omega
              obtain ⟨m, hm⟩ : ∃ m, len2 sr = m := ⟨_, rfl⟩
              have HM : Hid (m < 65536) := by have := len2_lt sr h2; rw [hm] at this; exact this
              have HG : Hid (numTo (sr.extract 0 2) (sr.extract 0 2).size = m) := hm
              have h2' := Lib.hid h2
              by_cases hm2 : 4096 < m
              · have HF := Lib.hid (text_form sr h2 (by rw [hm]; exact hm2))
                clear hm
                go_wp2_with fail
                refine (text_any rb _ _ _ hr).mono ?_
                rintro r w6 ⟨rfl, hr6, ht6⟩
                replace ht6 := ht.then ht6 (fun i hi => .inr (by rw [hi]; exact hge))
                obtain ⟨f1, f2⟩ := HF.out
                rw [f2] at hr6
                rw [f1]
                clear f1 f2
                have hmB := HM.out
                go_wp2_with fail
                refine (refGet_any (sr.extract 0 2) _ hz).mono ?_
                rintro r w' ⟨rfl, rfl⟩
                rw [HG.out]
                go_wp2
                go_roundw
                case rel => exact ⟨k + 1, sr, (txS sr 0), 4, by omega, by omega, by go_num, rfl, rfl, hr6, (fun h => by cases h), hrs, ht6⟩
                case measure => simp [intOf]; omega
              · by_cases hfit : 2 + m ≤ sr.size
                · have HF := Lib.hid (text_fit sr h2 (by omega) (by rw [hm]; exact hfit))
                  rw [hm] at HF
                  clear hm
                  have hsl := slice_mid sr m hfit
                  have HZ : Hid ((sr.extract (2 + m) sr.size).size ≤ 200) := by show _ ≤ 200; rw [ByteArray.size_extract]; omega
                  go_wp2_with fail
                  refine (text_any rb _ _ _ hr).mono ?_
                  rintro r w6 ⟨rfl, hr6, ht6⟩
                  replace ht6 := ht.then ht6 (fun i hi => .inr (by rw [hi]; exact hge))
                  obtain ⟨f1, f2, f3⟩ := HF.out
                  rw [f2, f3] at hr6
                  rw [f1]
                  clear f1 f2 f3
                  have hmB := HM.out
                  go_wp2_with fail
                  refine (refGet_any (sr.extract 0 2) _ hz).mono ?_
                  rintro r w' ⟨rfl, rfl⟩
                  rw [HG.out]
                  go_wp2
                  go_roundw
                  case rel => exact ⟨k + 1, (sr.extract (2 + m) sr.size), (sr.extract (2 + m) sr.size), 0, by omega, by omega, by go_num, rfl, rfl, hr6, (fun _ => rfl), HZ.out, ht6⟩
                  case measure => simp [intOf]; omega
                · have HF := Lib.hid (text_short sr h2 (by omega) (by omega))
                  clear hm
                  go_wp2_with fail
                  refine (text_any rb _ _ _ hr).mono ?_
                  rintro r w6 ⟨rfl, hr6, ht6⟩
                  replace ht6 := ht.then ht6 (fun i hi => .inr (by rw [hi]; exact hge))
                  obtain ⟨f1, f2⟩ := HF.out
                  rw [f2] at hr6
                  rw [f1]
                  clear f1 f2
                  have hmB := HM.out
                  go_wp2_with fail
                  refine (refGet_any (sr.extract 0 2) _ hz).mono ?_
                  rintro r w' ⟨rfl, rfl⟩
                  rw [HG.out]
                  go_wp2
                  go_roundw
                  case rel => exact ⟨k + 1, sr, (txS sr 0), 3, by omega, by omega, by go_num, rfl, rfl, hr6, (fun h => by cases h), hrs, ht6⟩
                  case measure => simp [intOf]; omega
            · obtain ⟨f1, f2⟩ := text_short2 sr (by omega)
              go_wp2_with fail
              refine (text_any rb _ _ _ hr).mono ?_
              rintro r w6 ⟨rfl, hr6, ht6⟩
              replace ht6 := ht.then ht6 (fun i hi => .inr (by rw [hi]; exact hge))
              rw [f2] at hr6
              rw [f1]
              clear f1 f2
              go_wp2
              go_roundw
              case rel => exact ⟨k + 1, sr, (txS sr 0), 3, by omega, by omega, by go_num, rfl, rfl, hr6, (fun h => by cases h), hrs, ht6⟩
              case measure => simp [intOf]; omega
          · obtain ⟨f1, f2⟩ := text_bad sr bd hb0
            have hb := beq_eq_false_iff_ne.2 hb0
            have HB := Lib.hid hb0
            clear hb0
            go_wp2_with fail
            refine (text_any rb _ _ _ hr).mono ?_
            rintro r w6 ⟨rfl, hr6, ht6⟩
            replace ht6 := ht.then ht6 (fun i hi => .inr (by rw [hi]; exact hge))
            rw [f2] at hr6
            rw [f1]
            clear f1 f2
            go_wp2
            go_roundw
            case rel => exact ⟨k + 1, rest, (txS sr bd), bd, by omega, by omega, by go_num, rfl, rfl, hr6, (fun h => absurd h HB.out), hrs, ht6⟩
            case measure => simp [intOf]; omega
        · obtain ⟨m, rfl⟩ : ∃ m : Nat, x = (m : Int) + 10 := ⟨(x - 10).toNat, by omega⟩
          have hw : wrap64 (m : Int) = m := IntWalk.wrap64_in _ (by have := HB2.out; omega)
          have hx10 : (((m : Int) + 10) == 9) = false := by rw [beq_eq_false_iff_ne]; omega
          clear hx99
          by_cases hb0 : bd = 0
          · subst hb0
            obtain rfl := hsr rfl
            obtain ⟨e1, e2, e3⟩ := fix_in sr 0 m
            by_cases hfit : m ≤ sr.size
            · obtain ⟨f1, f2, f3⟩ := tk_fit sr m hfit
              rw [f1] at e1
              rw [f2] at e2
              rw [f3] at e3
              have hz2 : (sr.extract m sr.size).size ≤ 200 := by rw [ByteArray.size_extract]; omega
              clear f1 f2 f3
              go_wp2_with fail
              refine (fixed_any rb _ _ _ _ hr).mono ?_
              rintro r w6 ⟨rfl, hr6, ht6⟩
              replace ht6 := ht.then ht6 (fun i hi => .inr (by rw [hi]; exact hge))
              rw [e2, e3] at hr6
              rw [e1]
              clear e1 e2 e3
              go_wp2
              go_roundw
              case rel => exact ⟨k + 1, (sr.extract m sr.size), (sr.extract m sr.size), 0, by omega, by omega, by go_num, rfl, rfl, hr6, (fun _ => rfl), hz2, ht6⟩
              case measure => simp [intOf]; omega
            · obtain ⟨f1, f2, f3⟩ := tk_short sr m (by omega)
              rw [f1] at e1
              rw [f2] at e2
              rw [f3] at e3
              clear f1 f2 f3
              go_wp2_with fail
              refine (fixed_any rb _ _ _ _ hr).mono ?_
              rintro r w6 ⟨rfl, hr6, ht6⟩
              replace ht6 := ht.then ht6 (fun i hi => .inr (by rw [hi]; exact hge))
              rw [e2, e3] at hr6
              rw [e1]
              clear e1 e2 e3
              go_wp2
              go_roundw
              case rel => exact ⟨k + 1, sr, sr, 3, by omega, by omega, by go_num, rfl, rfl, hr6, (fun h => by cases h), hrs, ht6⟩
              case measure => simp [intOf]; omega
          · obtain ⟨e1, e2, e3⟩ := fix_in sr bd m
            obtain ⟨f1, f2, f3⟩ := tk_bad sr bd m hb0
            rw [f1] at e1
            rw [f2] at e2
            rw [f3] at e3
            have hb := beq_eq_false_iff_ne.2 hb0
            have HB := Lib.hid hb0
            clear hb0 f1 f2 f3
            go_wp2_with fail
            refine (fixed_any rb _ _ _ _ hr).mono ?_
            rintro r w6 ⟨rfl, hr6, ht6⟩
            replace ht6 := ht.then ht6 (fun i hi => .inr (by rw [hi]; exact hge))
            rw [e2, e3] at hr6
            rw [e1]
            clear e1 e2 e3
            go_wp2
            go_roundw
            case rel => exact ⟨k + 1, rest, sr, bd, by omega, by omega, by go_num, rfl, rfl, hr6, (fun h => absurd h HB.out), hrs, ht6⟩
            case measure => simp [intOf]; omega
    · have hx : k = len ∨ (k < len ∧ k = 20) := by omega
      clear hlt2
      have hTB : Below w.heap.size w wr := ht.below (fun _ h => h.elim) (Nat.le_refl _)
      by_cases hb0 : bd = 0
      · subst hb0
        obtain rfl := hsr rfl
        by_cases hz : sr.size = 0
        · have hl : sr.toList = [] := by rw [ByteArray.toList_eq]; apply List.eq_nil_of_length_eq_zero; simpa using hz
          have hl2 : sr.toList.isEmpty = true := by rw [hl]; rfl
          clear hl
          have he : endOf sr 0 = 0 := by unfold endOf; rw [if_pos rfl, if_pos hz]
          have He := Lib.hid he
          clear hz he
          rcases hx with rfl | ⟨hx1, rfl⟩
          all_goals
            go_wp2_with fail
            refine (end_any rb _ _ _ hr).mono ?_
            rintro r w' ⟨rfl, rfl⟩
            rw [He.out]
            go_wp2
            go_ret
            exact ⟨rfl, hTB⟩
        · have hl2 : sr.toList.isEmpty = false := by rw [ByteArray.toList_eq, List.isEmpty_eq_false_iff]; intro e; exact hz (by have := congrArg List.length e; simpa using this)
          have he : endOf sr 0 = 2 := by unfold endOf; rw [if_pos rfl, if_neg hz]
          have He := Lib.hid he
          clear hz he
          rcases hx with rfl | ⟨hx1, rfl⟩
          all_goals
            go_wp2_with fail
            refine (end_any rb _ _ _ hr).mono ?_
            rintro r w' ⟨rfl, rfl⟩
            rw [He.out]
            go_wp2
            go_ret
            exact ⟨rfl, hTB⟩
      · have hb := beq_eq_false_iff_ne.2 hb0
        have he : endOf sr bd = bd := if_neg hb0
        have He := Lib.hid he
        clear hb0 he
        rcases hx with rfl | ⟨hx1, rfl⟩
        all_goals
          go_wp2_with fail
          refine (end_any rb _ _ _ hr).mono ?_
          rintro r w' ⟨rfl, rfl⟩
          rw [He.out]
          go_wp2
          go_ret
          exact ⟨rfl, hTB⟩

end Go.Proofs.Ytljnfppmnikngaa.octetReads
