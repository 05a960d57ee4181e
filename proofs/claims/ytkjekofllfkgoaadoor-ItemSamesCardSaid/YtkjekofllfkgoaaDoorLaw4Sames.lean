/- plumboblaw04.ItemSames: true, at whatever nodes and numbers. Conditions: the lists as they came in; strconv's table of powers holds what its initialiser lays. -/
import Derived.Test.YtkjekofllfkgoaaDoorLaw4Codes
import Derived.Test.YtkjekofllfkgoaaDoorItSame
import Derived.Test.YtkjekofllfkgoaaDoorItNums
namespace Go.Proofs.YtkjekofllfkgoaaDoor
open Go.RowKit

theorem assert_list_any {ok : Nat → Prop} {w : World} {y : Value} {u : IT} (hj : Itm w ok y u) : ∃ x f, ∀ w, (Instr.typeAssert y 24 85 true).run Tryd.prog w = .ok (.tuple #[x, .bool f]) w := by
  match u, hj with
  | .num n, hj => rw [Itm.num_eq] at hj; subst hj; exact ⟨_, _, run_assert_miss (P := Tryd.prog) plainList zeroList (by decide) _ 24⟩
  | .text n, hj => rw [Itm.text_eq] at hj; subst hj; exact ⟨_, _, run_assert_miss (P := Tryd.prog) plainList zeroList (by decide) _ 24⟩
  | .list n, hj =>
    rw [Itm.list_eq] at hj
    obtain ⟨a, cap, xs, rfl, _⟩ := hj
    exact ⟨_, _, run_assert_hit (P := Tryd.prog) plainList _ 24⟩

theorem show_nil (w : World) : Calls Tryd.prog 13 #[.nilIface] w fun e w' => e = .returned (.string ⟨#[]⟩) ∧ w = w' := by
  have h1 := run_assert_nil (P := Tryd.prog) plainList zeroList 24
  have h2 := run_assert_nil (P := Tryd.prog) plainNum zeroNum 24
  have h3 := run_assert_nil (P := Tryd.prog) plainText zeroText 24
  go_enter Tryd.func13, Tryd.ntmps13
  go_wp2
  go_ret
  exact ⟨rfl, rfl⟩

theorem leaf_shown (t : IT) (hl : ∀ l, t ≠ .list l) : t.shw ≠ [] := by
  match t, hl with
  | .num a, _ => rw [IT.shw]; obtain ⟨c, r, h3, hc⟩ := itoa_head a; rw [h3]; simp
  | .text a, _ => rw [IT.shw]; unfold quo; simp
  | .list l, hl => exact absurd rfl (hl l)

set_option maxRecDepth 100000 in
theorem same_leafnil (t : IT) (T : TypeId) (v : Value) (w : World) (ok : Nat → Prop) (hT : T ≠ 85) (hl : ∀ l, t ≠ .list l) (ft : Fine t) (hi : Itm w ok (.iface T v) t) (hp : Pow w) :
    Calls Tryd.prog 18 #[.iface T v, .nilIface] w fun e w' => e = .returned (.bool false) ∧ Below w.heap.size w w' := by
  have h1 := run_assert_miss (P := Tryd.prog) plainList zeroList hT v 24
  have h2 := run_assert_nil (P := Tryd.prog) plainList zeroList 24
  have HP := Lib.hid hp
  have HI := Lib.hid hi
  have hne := leaf_shown t hl
  have hne2 : (t.shw == []) = false := by simpa using hne
  have HF := Lib.hid ft
  clear hT hp hi hl hne ft
  go_enter Tryd.func18, Tryd.ntmps18
  go_wp2_with fail
  refine (depth_nil _).mono ?_
  rintro e w' ⟨rfl, rfl⟩
  go_wp2_with fail
  refine (show_fine t HF.out _ _ _ HI.out HP.out).mono ?_
  rintro e w1 ⟨rfl, hb1⟩
  go_wp2_with fail
  refine (show_nil _).mono ?_
  rintro e w2 ⟨rfl, rfl⟩
  go_wp2
  go_ret
  exact ⟨by simp, hb1⟩

theorem same_nily (t : IT) (v : Value) (w : World) (ok : Nat → Prop) (ft : Fine t) (hi : Itm w ok v t) (hp : Pow w) :
    Calls Tryd.prog 18 #[v, .nilIface] w fun e w' => e = .returned (.bool false) ∧ Below w.heap.size w w' := by
  match t, ft, hi with
  | .num n, ft, hi => have hi' := hi; rw [Itm.num_eq] at hi; subst hi; exact same_leafnil _ _ _ w ok (by decide) (fun _ h => by cases h) ft hi' hp
  | .text n, ft, hi => have hi' := hi; rw [Itm.text_eq] at hi; subst hi; exact same_leafnil _ _ _ w ok (by decide) (fun _ h => by cases h) ft hi' hp
  | .list n, ft, hi =>
    rw [Itm.list_eq] at hi
    obtain ⟨a, cap, xs, rfl, _⟩ := hi
    exact same_listno a _ cap _ w _ (run_assert_nil (P := Tryd.prog) plainList zeroList 24)

theorem own_none (w : World) (e : TypeId) (size : Nat) : (w.alloc (.cells #[] e)).ownsRow w.heap.size e size (.slice (some ⟨w.heap.size, 0, none⟩) 0 0) 0 [] :=
  ⟨by simp, .inr ⟨w.heap.size, 0, #[], rfl, Nat.le_refl _, heap_alloc_new _ _, Nat.le_refl _, by decide, by simp, by simp⟩⟩

theorem numsV (w : World) (ok : Nat → Prop) : ∀ zs : List Int, ItmL w ok (zs.map fun z => .iface 2 (.int .i64 z)) (zs.map .num)
  | [] => by rw [List.map_nil, List.map_nil, ItmL]; trivial
  | z :: zs => by rw [List.map_cons, List.map_cons, ItmL]; exact ⟨Itm.num_eq.2 rfl, numsV w ok zs⟩

set_option maxRecDepth 100000 in
set_option maxHeartbeats 4000000 in
theorem itemSames_any (a : Option Addr) (len cap : Nat) (l : List NdV) (hl : l.length = len) (hcap : len ≤ cap) (hok : ∀ p ∈ l, p.ok)
    (a2 : Option Addr) (len2 cap2 : Nat) (l2 : List NdV) (hl2 : l2.length = len2) (hcap2 : len2 ≤ cap2) (hok2 : ∀ p ∈ l2, p.ok)
    (a3 : Option Addr) (len3 cap3 : Nat) (zs : List Int) (hcap3 : len3 ≤ cap3) (hl3 : zs.length = len3) (_wz : ∀ z ∈ zs, (Lit.int .i64 z).wf = true)
    (w : World) (hN : NodesAt w (.slice a len cap) l) (hN2 : NodesAt w (.slice a2 len2 cap2) l2) (hZ : Cells w (.slice a3 len3 cap3) (ints zs)) (hp : Pow w) :
    Calls Tryd.prog 6 #[.slice a len cap, .slice a2 len2 cap2, .slice a3 len3 cap3] w fun e w' => e = .returned (.bool true) ∧ Below w.heap.size w w' := by
  have hmin : (min (len : Int) 30).toNat = min len 30 := by omega
  have hmin2 : (min (len2 : Int) 30).toNat = min len2 30 := by omega
  have hmin3 : (min (len3 : Int) 20).toNat = min len3 20 := by omega
  have hmin4 : min (len3 : Int) 20 = ((min len3 20 : Nat) : Int) := by omega
  have HN := Lib.hid hN
  have HN2 := Lib.hid hN2
  have HP := Lib.hid hp
  have hF := Lib.hid (mk_fine (l.take (min len 30)) (take_ok hok) (by rw [List.length_take]; omega))
  have hmade := Lib.hid (fun W hW => made_first a len cap (min len 30) l hl hok (by omega) (by omega) W hW)
  have hF2 := Lib.hid (mk_fine (l2.take (min len2 30)) (take_ok hok2) (by rw [List.length_take]; omega))
  have hmade2 := Lib.hid (fun W hW => made_first a2 len2 cap2 (min len2 30) l2 hl2 hok2 (by omega) (by omega) W hW)
  have hZ3 := hZ.take (n := min len3 20) (by omega)
  rw [show (ints zs).take (min len3 20) = ints (zs.take (min len3 20)) from (List.map_take ..).symm] at hZ3
  have HZ := Lib.hid hZ3
  have HL3 := Lib.hid (show (zs.take (min len3 20)).length = min len3 20 by rw [List.length_take]; omega)
  have hc20 : min len3 20 ≤ 20 := by omega
  clear hN hp hok hl hN2 hok2 hl2 hZ hZ3 hl3
  go_enter Tryd.func6, Tryd.ntmps6
  go_wp2_with fail
  refine (speaks4_any _ HP.out).mono ?_
  rintro e w1 ⟨rfl, hb1⟩
  go_wp2_with fail
  have s1 := hb1.size
  refine (hmade.out w1 (HN.out.below hb1)).mono ?_
  rintro e w2 ⟨v, nv, rfl, hx, _, hb2⟩
  have s2 := hb2.size
  have hb2 := hb1.trans (hb2.mono s1)
  obtain ⟨T, u, rfl⟩ := hx.one
  go_wp2_with fail
  clear hmin2
  refine (hmade2.out w2 (HN2.out.below hb2)).mono ?_
  rintro e w3 ⟨v2, nv2, rfl, hy, _, hb3⟩
  have hx := hx.old hb3
  have s3 := hb3.size
  have hb3 := hb2.trans (hb3.mono (by omega))
  obtain ⟨T2, u2, rfl⟩ := hy.one
  go_wp2_with fail
  have HmkT := Lib.hid hmade
  refine (hmade.out w3 (HN.out.below hb3)).mono ?_
  rintro e w4 ⟨v3, nv3, rfl, hz, _, hb4⟩
  have hx := hx.old hb4
  have hy := hy.old hb4
  have s4 := hb4.size
  have hb4 := hb3.trans (hb4.mono (by omega))
  obtain ⟨T3, u3, rfl⟩ := hz.one
  generalize (mk (l.take (min len 30)) 8 0).2 = kend at hmade HmkT ⊢
  generalize (mk (l.take (min len 30)) 8 0).1 = t at *
  generalize (mk (l2.take (min len2 30)) 8 0).2 = kend2 at hmade2 ⊢
  generalize (mk (l2.take (min len2 30)) 8 0).1 = r at *
  have Hx := Lib.hid (hx.mono (ok' := fun _ => True) fun _ _ _ => trivial)
  have Hy := Lib.hid (hy.mono (ok' := fun _ => True) fun _ _ _ => trivial)
  have Hz := Lib.hid (hz.mono (ok' := fun _ => True) fun _ _ _ => trivial)
  clear hx hy hz hmin hb1 hb2 hb3 hmade hmade2 HmkT
  go_wp2_with fail
  refine (enc_fine t hF.out _ _ _ Hx.out).mono ?_
  rintro e w5 ⟨rfl, hb5⟩
  have s5 := hb5.size
  replace Hx := Lib.hid (Hx.out.old hb5)
  replace Hy := Lib.hid (Hy.out.old hb5)
  replace Hz := Lib.hid (Hz.out.old hb5)
  have hb5 := hb4.trans (hb5.mono (by omega))
  go_wp2_with fail
  refine (enc_fine r hF2.out _ _ _ Hy.out).mono ?_
  rintro e w6 ⟨rfl, hb6⟩
  have s6 := hb6.size
  replace Hx := Lib.hid (Hx.out.old hb6)
  replace Hy := Lib.hid (Hy.out.old hb6)
  replace Hz := Lib.hid (Hz.out.old hb6)
  have hb6 := hb5.trans (hb6.mono (by omega))
  go_wp2_with fail
  refine (same_any 8 t t _ _ _ _ hF.out.dep hF.out hF.out Hx.out Hz.out (HP.out.old hb6) true (by simp)).mono ?_
  rintro e w7 ⟨rfl, hb7⟩
  have s7 := hb7.size
  replace Hx := Lib.hid (Hx.out.old hb7)
  replace Hy := Lib.hid (Hy.out.old hb7)
  have hb7 := hb6.trans (hb7.mono (by omega))
  clear Hz
  go_wp2_with fail
  refine (same_any 8 t r _ _ _ _ hF.out.dep hF.out hF2.out Hx.out Hy.out (HP.out.old hb7) (t.enc == r.enc) (by
    rw [beq_iff_eq]; exact ⟨fun h => enc_inj hF.out hF2.out h, fun h => by rw [h]⟩)).mono ?_
  rintro e w8 ⟨rfl, hb8⟩
  have s8 := hb8.size
  replace Hx := Lib.hid (Hx.out.old hb8)
  have hb8 := hb7.trans (hb8.mono (by omega))
  clear Hy hb4 hb5 hb6 hb7
  go_wp2_with fail
  refine (same_nily t _ _ _ hF.out Hx.out (HP.out.old hb8)).mono ?_
  rintro e w9 ⟨rfl, hb9⟩
  have s9 := hb9.size
  replace Hx := Lib.hid (Hx.out.old hb9)
  have hb9 := hb8.trans (hb9.mono (by omega))
  obtain ⟨xx, ff, h2⟩ := assert_list_any Hx.out
  have H2 := Lib.hid h2
  clear h2
  go_wp2_with fail
  refine (same_nilx _ _ _ _ _ H2.out).mono ?_
  rintro e w10 ⟨rfl, hb10⟩
  have s10 := hb10.size
  have hb10 := hb9.trans (hb10.mono (by omega))
  clear hb8 hb9 H2
  go_wp2_with fail
  have hsz0 := hb10.size
  replace HZ := Lib.hid (HZ.out.old hb10)
  generalize zs.take (min len3 20) = ys at HZ HL3
  generalize min len3 20 = c at *
  clear hmin3 hmin4
  have hb10 := Lib.hid hb10
  go_loopw [20, 21] (fun l i W => ∃ k : Nat, k ≤ c ∧ i = .int .i64 k ∧ W.ownsRow w10.heap.size 24 1 l k ((ys.take k).map fun z => .iface 2 (.int .i64 z)) ∧ Below w10.heap.size w10 W) (fun _ i _ => c - (intOf i).toNat)
  case atStart => exact ⟨0, Nat.zero_le _, rfl, World.ownsRow_nil _ _ _ _, Below.refl _ _⟩
  case round =>
    obtain ⟨k, hk, rfl, hown, hb⟩ := hrel
    have sr := hb.size
    by_cases hlt : k < c
    · have Hown := Lib.hid hown
      clear hown
      obtain ⟨g, off, rfl, hgw, hcell⟩ := HZ.out.int_at k hlt
      have hcell : wr.cell? ⟨g, off + k, none⟩ = some (.int .i64 (ys.getD k 0)) := (hb.cell (p := ⟨g, off + k, none⟩) hgw).trans hcell
      have htk : ys.take (k + 1) = ys.take k ++ [ys.getD k 0] := by
        have : k < ys.length := by have := HL3.out; omega
        rw [List.take_add_one, List.getElem?_eq_getElem this]; simp [List.getD, List.getElem?_eq_getElem this]
      have Htk := Lib.hid htk
      clear htk
      generalize ys.getD k 0 = z at hcell Htk
      go_wp2_with fail
      refine (itNum_any z _).mono ?_
      rintro e w' ⟨rfl, rfl⟩
      go_wp2_with (at_builtin; refine Hid.out ?_)
      unfold Hid
      refine wpList_appW rfl rfl Tryd.underlying42 Tryd.infoItem rfl 1 Hown.out rfl rfl rfl ?_ ?_ ?_ (by omega) ?_
      · simp [Value.oneCell']
      · omega
      · unfold maxLen; omega
      intro v' w4 ho4 hg4 _
      have hb4 := hb.grown hg4 sr (fun j hj => (Hown.out.lt j hj).1)
      have ho4 : w4.ownsRow w10.heap.size 24 1 v' (k + 1) ((ys.take (k + 1)).map fun z => .iface 2 (.int .i64 z)) := by rw [Htk.out, List.map_append]; exact ho4
      obtain ⟨a4, c4, rfl⟩ := own_shape ho4
      clear hg4
      go_wp2
      go_roundw
      case rel => exact ⟨k + 1, by omega, by go_num, ho4, hb4⟩
      case measure => simp [intOf]; omega
    · obtain rfl : k = c := by omega
      have hyk : ys.take k = ys := by rw [← HL3.out, List.take_length]
      rw [hyk] at hown
      obtain ⟨al, cl, rfl⟩ := own_shape hown
      have hown' := Lib.hid hown
      have hold : Holder wr (fun _ => True) al (ys.map .num) := by
        refine ⟨ys.map fun z => .iface 2 (.int .i64 z), by simp, by rw [List.length_map, HL3.out]; omega, fun hne => ?_, numsV _ _ _⟩
        obtain ⟨g, c', hv, _, hg, _, hc⟩ := own_open hown (by intro e; have := HL3.out; rw [e] at this; exact hne (by simpa using this))
        injection hv with e1 _ _
        exact ⟨g, e1, hg, hc⟩
      have hlist := itList_any al cl _ wr _ hold
      rw [List.length_map, HL3.out] at hlist
      have Hlist := Lib.hid hlist
      clear hlist hold hown hyk
      go_wp2_with fail
      refine Hlist.out.mono ?_
      rintro e w11 ⟨v4, rfl, hi4, hb11⟩
      have s11 := hb11.size
      have hi5 := hi4
      rw [Itm.list_eq] at hi5
      obtain ⟨a4, cap4, xs4, rfl, _⟩ := hi5
      rw [List.length_map, HL3.out] at hi4 ⊢
      have Hi4 := Lib.hid hi4
      clear hi4 Hlist
      go_wp2_with fail
      refine (nums_list a4 cap4 k ys [] w11 _ (by simp) (by simpa using HL3.out.symm) (by simpa using Hi4.out)).mono ?_
      rintro e w12 ⟨hb12, he⟩
      rw [if_pos rfl] at he
      obtain ⟨out, rfl, ho⟩ := he
      rw [HL3.out] at ho
      obtain ⟨ao, co, rfl⟩ := own_shape ho
      have s12 := hb12.size
      have hbr := hb11.trans (hb12.mono s11)
      have hb12 : Below w10.heap.size w10 w12 := (hb.trans (hb11.mono sr)).trans (hb12.mono (by omega))
      have HO := Lib.hid (cells_of_own ho)
      have Hown := Lib.hid ((Touch.of_below hbr (fun _ => False)).own hown'.out (fun _ _ h => h))
      clear ho Hi4
      go_wp2_with fail
      go_loopw [24] (fun i W => ∃ j : Nat, j ≤ k ∧ i = .int .i64 j ∧ Below w12.heap.size w12 W) (fun i _ => k - (intOf i).toNat)
      case atStart => exact ⟨0, Nat.zero_le _, rfl, Below.refl _ _⟩
      case round =>
        obtain ⟨j, hj, rfl, hb13⟩ := hrel
        by_cases hlt2 : j < k
        · obtain ⟨g, off, rfl, hgw, hcell⟩ := HZ.out.int_at j hlt2
          obtain ⟨g2, off2, rfl, hgw2, hcell2⟩ := HO.out.int_at j hlt2
          have hcell : wr.cell? ⟨g, off + j, none⟩ = some (.int .i64 (ys.getD j 0)) := (((hb12.trans (hb13.mono hb12.size)).cell (p := ⟨g, off + j, none⟩) hgw)).trans hcell
          have hcell2 : wr.cell? ⟨g2, off2 + j, none⟩ = some (.int .i64 (ys.getD j 0)) := (hb13.cell (p := ⟨g2, off2 + j, none⟩) hgw2).trans hcell2
          generalize ys.getD j 0 = z at hcell hcell2
          go_wp2_with fail
          go_quiet (fail)
          go_wp2
          go_roundw
          case rel => exact ⟨j + 1, by omega, by go_num, hb13.trans ⟨rfl, rfl, rfl, Nat.le_refl _, fun _ _ => rfl⟩⟩
          case measure => simp [intOf]; omega
        · obtain rfl : j = k := by omega
          go_wp2_with (at_builtin; refine Hid.out ?_)
          unfold Hid
          have hb13' := hb12.trans (hb13.mono hb12.size)
          have sw := hb13'.size
          have Hown := Lib.hid ((Touch.of_below (hb13) (fun _ => False)).own Hown.out (fun _ _ h => h))
          have hone : ∀ u ∈ ys.map (fun z => Value.iface 2 (.int .i64 z)), u.oneCell' = true := by
            intro u hu; obtain ⟨z, _, rfl⟩ := List.mem_map.1 hu; rfl
          have own0 := own_none wr 24 1
          have Hsrc := Lib.hid (own_src Hown.out)
          have Hone := Lib.hid hone
          have hba := (Below.refl wr.heap.size wr).alloc (Nat.le_refl _) (.cells #[] 24)
          clear hone
          have hsrc : ∀ ad, al = some ad → ∀ (i : Nat) u, (ys.map (fun z => Value.iface 2 (.int .i64 z)))[i]? = some u → (wr.alloc (.cells #[] 24)).cell? (ad.add i) = some u := by
            intro ad had i u hu
            obtain ⟨a', c', hv, _, h3⟩ := Hsrc.out
            injection hv with e1 _ _
            subst e1
            have hlt := (Hown.out.lt ad.block (by rw [had]; rfl)).2
            have e : (ad.add i).block = ad.block := by unfold Addr.add; split <;> rfl
            rw [hba.cell (p := ad.add i) (by rw [e]; exact hlt)]
            exact h3 ad had i u hu
          refine wpList_appSrc rfl rfl 1 Tryd.underlying42 Tryd.underlying42 Tryd.infoItem rfl (by decide) own0 rfl (news := ys.map (fun z => Value.iface 2 (.int .i64 z))) rfl (by rw [List.length_map, HL3.out, Nat.mul_one]) ?_ hsrc Hone.out (by unfold maxLen; omega) (by omega) (by simp) ?_
          · intro h
            obtain ⟨a', c', hv, h2, _⟩ := Hsrc.out
            injection hv with e1 _ _
            exact h2 (e1 ▸ h)
          intro v14 w14 ho14 hg14 _
          rw [Nat.zero_add, List.nil_append] at ho14
          have hb14 := hba.grown hg14 (by simp) (fun k hk => by have := (own0.lt k hk).1; omega)
          have s14 := hb14.size
          obtain ⟨a14, c14, rfl⟩ := own_shape ho14
          have Ho14 := Lib.hid ho14
          have hb14' := hb13'.trans (hb14.mono sw)
          clear ho14 hg14 own0 hsrc
          go_wp2_with fail
          refine (itText_any _ _).mono ?_
          rintro e w' ⟨rfl, rfl⟩
          go_wp2_with (at_builtin; refine Hid.out ?_)
          unfold Hid
          refine wpList_appW rfl rfl Tryd.underlying42 Tryd.infoItem rfl 1 Ho14.out rfl rfl rfl ?_ ?_ ?_ s14 ?_
          · simp [Value.oneCell']
          · omega
          · unfold maxLen; omega
          intro v15 w15 ho15 hg15 _
          have hb15 := hb14.grown hg15 s14 (fun k hk => by have := (Ho14.out.lt k hk).1; omega)
          have ho15 : w15.ownsRow wr.heap.size 24 1 v15 (j + 1) ((ys.map fun z => .iface 2 (.int .i64 z)) ++ [.iface 9 (.string ⟨#[120]⟩)]) := ho15
          obtain ⟨a15, c15, rfl⟩ := own_shape ho15
          have s15 := hb15.size
          have hold : Holder w15 (fun _ => True) a15 (ys.map .num ++ [⟨#[120]⟩].map .text) := by
            refine ⟨(ys.map fun z => .iface 2 (.int .i64 z)) ++ [.iface 9 (.string ⟨#[120]⟩)], by simp, by simp [HL3.out]; omega, fun hne => ?_, ?_⟩
            · obtain ⟨g, c', hv, _, hg, _, hc⟩ := own_open ho15 (by omega)
              injection hv with e1 _ _
              exact ⟨g, e1, hg, hc⟩
            · exact ItmL.snoc (Itm.text_eq.2 rfl) (by simp) (numsV _ _ ys)
          have hlist := itList_any a15 c15 _ w15 _ hold
          rw [List.length_append, List.length_map, HL3.out] at hlist
          have Hlist := Lib.hid hlist
          clear hlist hold ho15 hg15
          go_wp2_with fail
          refine Hlist.out.mono ?_
          rintro e w16 ⟨v16, rfl, hi16, hb16⟩
          have hi17 := hi16
          rw [Itm.list_eq] at hi17
          obtain ⟨a16, cap16, xs16, rfl, _⟩ := hi17
          rw [List.length_append, List.length_map, HL3.out] at hi16 ⊢
          have Hi16 := Lib.hid hi16
          have s16 := hb16.size
          have hb16 := hb15.trans (hb16.mono s15)
          clear hi16 Hlist
          go_wp2_with fail
          refine (nums_list a16 cap16 (j + 1) ys [⟨#[120]⟩] w16 _ (by simp) (by simp [HL3.out]) Hi16.out).mono ?_
          rintro e w17 ⟨hb17, he⟩
          rw [if_neg (by simp)] at he
          subst he
          have s17 := hb17.size
          have hb17 := hb16.trans (hb17.mono hb16.size)
          go_wp2_with fail
          refine (itNum_any 1 _).mono ?_
          rintro e w' ⟨rfl, rfl⟩
          go_wp2_with fail
          refine (nums_leaf _ _ _ (by decide)).mono ?_
          rintro e w18 ⟨rfl, hb18⟩
          have hb18 := hb17.trans (hb18.mono hb17.size)
          go_wp2_with fail
          refine (nums_nil _).mono ?_
          rintro e w19 ⟨rfl, hb19⟩
          have hb19 := hb18.trans (hb19.mono hb18.size)
          have hb20 := hb10.out.trans ((hb13'.trans (hb19.mono sw)).mono hsz0)
          go_wp2
          go_ret
          exact ⟨rfl, hb20⟩

end Go.Proofs.YtkjekofllfkgoaaDoor
