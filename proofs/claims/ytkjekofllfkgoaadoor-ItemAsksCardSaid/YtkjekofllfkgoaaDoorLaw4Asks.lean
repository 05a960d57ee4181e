/- plumboblaw04.ItemAsks: true, at whatever nodes and places. Conditions: the nodes as they came in; strconv's table of powers holds what its initialiser lays. -/
import Derived.Test.YtkjekofllfkgoaaDoorLaw4Codes
import Derived.Test.YtkjekofllfkgoaaDoorItAsk
namespace Go.Proofs.YtkjekofllfkgoaaDoor
open Go.RowKit

/-- The root's kind, as the reference has it. -/
def IT.rk : IT → Int | .num _ => 1 | .text _ => 2 | .list _ => 3
theorem nds_root (t : IT) : ∃ r, nds t = ndRow t.rk t.nOf t.tOf t.cOf ++ r := by
  cases t with
  | num n => exact ⟨[], by rw [nds]; rfl⟩
  | text s => exact ⟨[], by rw [nds]; rfl⟩
  | list l => exact ⟨ndsL l, by rw [nds]; rfl⟩

theorem path_one (t : IT) (i : Int) : pathR t [i] = if t.isL then match t.atP i with | some q => .ok q | none => .error 10 else .error 6 := by
  rw [pathR]
  cases t.isL
  · rfl
  · cases t.atP i with
    | none => rfl
    | some q => show pathR q [] = _; rw [pathR]; rfl
theorem path_two (t : IT) (i k : Int) : pathR t [i, k] = if t.isL then match t.atP i with | some q => pathR q [k] | none => .error 10 else .error 6 := by
  rw [pathR]
  cases t.isL <;> rfl
theorem path_nil (t : IT) : pathR t [] = .ok t := by rw [pathR]

theorem cnt_mem : ∀ {l : List IT} {t : IT}, t ∈ l → t.cnt ≤ cntL l
  | t0 :: l, t, h => by
    rw [cntL]
    rcases List.mem_cons.1 h with rfl | h
    · omega
    · have := cnt_mem h; omega

/-- What is known of the places. -/
inductive Ways (t : IT) (i k : Int) : Prop
  | leaf (h1 : t.isL = false) (h2 : (t.rk == 3) = false) (h3 : t.atP i = none) (h4 : pathR t [i] = .error 6) (h5 : pathR t [i, k] = .error 6)
  | below (h1 : t.isL = true) (h2 : t.rk = 3) (h3 : t.atP i = none) (h4 : pathR t [i] = .error 10) (h5 : pathR t [i, k] = .error 10) (h6 : i < 0)
  | above (h1 : t.isL = true) (h2 : t.rk = 3) (h3 : t.atP i = none) (h4 : pathR t [i] = .error 10) (h5 : pathR t [i, k] = .error 10) (h6 : 0 ≤ i) (h7 : (t.cOf : Int) ≤ i)
  | at (q : IT) (h1 : t.isL = true) (h2 : t.rk = 3) (h3 : t.atP i = some q) (h4 : pathR t [i] = .ok q) (h6 : 0 ≤ i) (h7 : i < (t.cOf : Int)) (hq : Fine t → Fine q)
      (h : (q.isL = false ∧ pathR t [i, k] = .error 6) ∨ (q.isL = true ∧ k < 0 ∧ pathR t [i, k] = .error 10) ∨ (q.isL = true ∧ 0 ≤ k ∧ (q.cOf : Int) ≤ k ∧ pathR t [i, k] = .error 10) ∨ (q.isL = true ∧ 0 ≤ k ∧ k < (q.cOf : Int) ∧ ∃ r, pathR t [i, k] = .ok r))

theorem atP_out (l : List IT) (i : Int) : (i < 0 ∧ (IT.list l).atP i = none) ∨ (0 ≤ i ∧ (l.length : Int) ≤ i ∧ (IT.list l).atP i = none) ∨ (0 ≤ i ∧ i < (l.length : Int) ∧ ∃ q, q ∈ l ∧ (IT.list l).atP i = some q) := by
  unfold IT.atP
  by_cases h0 : 0 ≤ i
  · obtain ⟨k, rfl⟩ := Int.eq_ofNat_of_zero_le h0
    simp only [Int.toNat_natCast, if_pos h0]
    rcases Nat.lt_or_ge k l.length with h | h
    · exact .inr (.inr ⟨h0, by omega, l[k], List.getElem_mem h, List.getElem?_eq_getElem h⟩)
    · exact .inr (.inl ⟨h0, by omega, List.getElem?_eq_none h⟩)
  · simp only [if_neg h0]
    exact .inl ⟨by omega, trivial⟩

theorem ways (t : IT) (i k : Int) : Ways t i k := by
  match t with
  | .num n => exact .leaf rfl rfl rfl (by rw [path_one]; rfl) (by rw [path_two]; rfl)
  | .text s => exact .leaf rfl rfl rfl (by rw [path_one]; rfl) (by rw [path_two]; rfl)
  | .list l =>
    rcases atP_out l i with ⟨h0, h⟩ | ⟨h0, h1, h⟩ | ⟨h0, h1, q, hm, h⟩
    · exact .below rfl rfl h (by rw [path_one, h]; rfl) (by rw [path_two, h]; rfl) h0
    · exact .above rfl rfl h (by rw [path_one, h]; rfl) (by rw [path_two, h]; rfl) h0 h1
    · have e2 : pathR (.list l) [i, k] = pathR q [k] := by rw [path_two, h]; rfl
      refine .at q rfl rfl h (by rw [path_one, h]; rfl) h0 h1 (fun hf => ?_) ?_
      · have hg := hf.good
        rw [IT.good] at hg
        have hd := hf.dep
        rw [IT.dep] at hd
        have hc := hf.cnt
        rw [IT.cnt] at hc
        have h1 := dep_mem hm
        have h2 := cnt_mem hm
        exact ⟨goodL_mem hg.2 q hm, by omega, by omega⟩
      · rw [e2, path_one]
        match q with
        | .num n => exact .inl ⟨rfl, rfl⟩
        | .text s => exact .inl ⟨rfl, rfl⟩
        | .list m =>
          rcases atP_out m k with ⟨k0, h⟩ | ⟨k0, k1, h⟩ | ⟨k0, k1, r, _, h⟩
          · exact .inr (.inl ⟨rfl, k0, by rw [h]; rfl⟩)
          · exact .inr (.inr (.inl ⟨rfl, k0, k1, by rw [h]; rfl⟩))
          · exact .inr (.inr (.inr ⟨rfl, k0, k1, r, by rw [h]; rfl⟩))

theorem places_one (w : World) (i : Int) : ∃ g, (some (⟨w.heap.size, 0, none⟩ : Addr)) = some ⟨g, 0, none⟩ ∧ ∀ (j : Nat) z, [i][j]? = some z → (w.alloc (.cells #[.int .i64 i] 3)).cell? ⟨g, j, none⟩ = some (.int .i64 z) :=
  ⟨w.heap.size, rfl, fun j z hj => by
    rw [World.cell?_alloc_at _ _ _ _ rfl]
    match j, hj with
    | 0, hj => simp at hj; subst hj; rfl⟩
theorem places_two (w : World) (i k : Int) : ∃ g, (some (⟨w.heap.size, 0, none⟩ : Addr)) = some ⟨g, 0, none⟩ ∧ ∀ (j : Nat) z, [i, k][j]? = some z → (w.alloc (.cells #[.int .i64 i, .int .i64 k] 3)).cell? ⟨g, j, none⟩ = some (.int .i64 z) :=
  ⟨w.heap.size, rfl, fun j z hj => by
    rw [World.cell?_alloc_at _ _ _ _ rfl]
    match j, hj with
    | 0, hj => simp at hj; subst hj; rfl
    | 1, hj => simp at hj; subst hj; rfl⟩

set_option maxRecDepth 100000 in
set_option maxHeartbeats 8000000 in
theorem itemAsks_any (a : Option Addr) (len cap : Nat) (l : List NdV) (hl : l.length = len) (hcap : len ≤ cap) (hok : ∀ p ∈ l, p.ok) (i : Int) (_wi : (Lit.int .i64 i).wf = true) (k : Int) (_wk : (Lit.int .i64 k).wf = true) (w : World) (hN : NodesAt w (.slice a len cap) l) (hp : Pow w) :
    Calls Tryd.prog 7 #[.slice a len cap, .int .i64 i, .int .i64 k] w fun e w' => e = .returned (.bool true) ∧ Below w.heap.size w w' := by
  have hmin : (min (len : Int) 30).toNat = min len 30 := by omega
  have HN := Lib.hid hN
  have HP := Lib.hid hp
  have hF := Lib.hid (mk_fine (l.take (min len 30)) (take_ok hok) (by rw [List.length_take]; omega))
  have hmade := Lib.hid (fun W hW => made_first a len cap (min len 30) l hl hok (by omega) (by omega) W hW)
  clear hN hp hok hl
  go_enter Tryd.func7, Tryd.ntmps7
  go_wp2_with fail
  refine (speaks4_any _ HP.out).mono ?_
  rintro e w1 ⟨rfl, hb1⟩
  go_wp2_with fail
  clear hmin
  have s1 := hb1.size
  refine (hmade.out w1 (HN.out.below hb1)).mono ?_
  rintro e w2 ⟨v, nv, rfl, hi, hnv, hb2⟩
  have s2 := hb2.size
  have hb2 := hb1.trans (hb2.mono s1)
  generalize (mk (l.take (min len 30)) 8 0).2 = kend at hmade ⊢
  generalize (mk (l.take (min len 30)) 8 0).1 = t at hF hi hnv
  have hcp := cnt_pos t
  obtain ⟨g, cap2, rfl, _, hgw, _, hcell⟩ := own_open hnv (by omega)
  obtain ⟨rr, hrr⟩ := nds_root t
  rw [hrr] at hcell
  have c0 := hcell 0 (.int .i64 t.rk) rfl
  have c1 := hcell 1 (.int .i64 t.nOf) rfl
  have c2 := hcell 2 (.string t.tOf) rfl
  have c3 := hcell 3 (.int .i64 t.cOf) rfl
  obtain ⟨T, u, rfl⟩ := hi.one
  clear hnv hcell hmade hrr
  go_wp2_with fail
  refine (asNum_any t _ _ _ hi).mono ?_
  rintro e w' ⟨rfl, rfl⟩
  go_wp2_with fail
  refine (asText_any t _ _ _ hi).mono ?_
  rintro e w' ⟨rfl, rfl⟩
  go_wp2_with fail
  refine (itLen_any t _ _ _ hi).mono ?_
  rintro e w' ⟨rfl, rfl⟩
  have k1 : (t.rk == 1) = t.isN := by cases t <;> rfl
  have k2 : (t.rk == 2) = t.isT := by cases t <;> rfl
  have k3 : (t.rk == 3) = t.isL := by cases t <;> rfl
  have hw := ways t i k
  go_wp2_with fail
  have d0 : (w2.alloc (.cells #[.int .i64 t.rk, .int .i64 t.nOf, .string t.tOf, .int .i64 t.cOf] 58)).cell? ⟨w2.heap.size, 0, none⟩ = some (.int .i64 t.rk) := by rw [World.cell?_alloc_at _ _ _ _ rfl]; rfl
  have d3 : (w2.alloc (.cells #[.int .i64 t.rk, .int .i64 t.nOf, .string t.tOf, .int .i64 t.cOf] 58)).cell? ⟨w2.heap.size, 3, none⟩ = some (.int .i64 t.cOf) := by rw [World.cell?_alloc_at _ _ _ _ rfl]; rfl
  have hb3 : Below w2.heap.size w2 (w2.alloc (.cells #[.int .i64 t.rk, .int .i64 t.nOf, .string t.tOf, .int .i64 t.cOf] 58)) := (Below.refl _ _).alloc (Nat.le_refl _) _
  have hi3 := hi.old hb3
  have hb3 := hb2.trans (hb3.mono (by omega))
  have s3 := hb3.size
  generalize (w2.alloc (.cells #[.int .i64 t.rk, .int .i64 t.nOf, .string t.tOf, .int .i64 t.cOf] 58)) = w3 at d0 d3 hi3 hb3 s3 ⊢
  have Hpn := Lib.hid (path_nil t)
  clear c0 c1 c2 c3 hi k1 k2 hb1 hb2
  rcases hw with ⟨h1, h2, h3, h4, h5⟩ | ⟨h1, h2, h3, h4, h5, h6⟩ | ⟨h1, h2, h3, h4, h5, h6, h7⟩ | ⟨q, h1, h2, h3, h4, h6, h7, hq, h8⟩
  rotate_left 3
  · rw [h1] at k3
    have i1 : decide (0 ≤ i) = true := decide_eq_true h6
    have i2 : decide (i < (t.cOf : Int)) = true := decide_eq_true h7
    have H3 := Lib.hid h3
    have H4 := Lib.hid h4
    have HQ := Lib.hid hq
    have H8 := Lib.hid h8
    clear h2 h3 h4 hq h8
    refine (at_any t _ i _ _ hi3).mono ?_
    rintro e w' ⟨rfl, hm⟩
    rw [H3.out] at hm
    obtain ⟨Ty, uy, rfl, hy⟩ := hm
    have Hfq := Lib.hid (HQ.out hF.out)
    go_wp2_with fail
    have hb4 : Below w3.heap.size w3 (w3.alloc (.cells #[.int .i64 i] 3)) := (Below.refl _ _).alloc (Nat.le_refl _) _
    have hi4 := hi3.old hb4
    have hy4 := hy.old hb4
    have hb4 := hb3.trans (hb4.mono s3)
    have s4 := hb4.size
    refine (path_any t _ [i] _ 1 _ _ hi4 (by simp) (fun _ => places_one w3 i)).mono ?_
    rintro e w' ⟨rfl, hm⟩
    rw [H4.out] at hm
    obtain ⟨Tz, uz, rfl, hz4⟩ := hm
    generalize (w3.alloc (.cells #[.int .i64 i] 3)) = w4 at hi4 hb4 s4 hy4 hz4 ⊢
    go_wp2_with fail
    refine (show_fine q Hfq.out _ _ _ hy4 (HP.out.old hb4)).mono ?_
    rintro e w5 ⟨rfl, hb5⟩
    have hi5 := hi4.old hb5
    have hy5 := hy4.old hb5
    have hz5 := hz4.old hb5
    have hb5 := hb4.trans (hb5.mono s4)
    have s5 := hb5.size
    go_wp2_with fail
    refine (show_fine q Hfq.out _ _ _ hz5 (HP.out.old hb5)).mono ?_
    rintro e w6 ⟨rfl, hb6⟩
    have hi6 := hi5.old hb6
    have hy6 := hy5.old hb6
    have hb6 := hb5.trans (hb6.mono s5)
    have s6 := hb6.size
    go_wp2_with fail
    have hb7 : Below w6.heap.size w6 (w6.alloc (.cells #[.int .i64 i, .int .i64 k] 3)) := (Below.refl _ _).alloc (Nat.le_refl _) _
    have hi7 := hi6.old hb7
    have hy7 := hy6.old hb7
    have hb7 := hb6.trans (hb7.mono s6)
    have s7 := hb7.size
    refine (path_any t _ [i, k] _ 2 _ _ hi7 (by simp) (fun _ => places_two w6 i k)).mono ?_
    rintro e w' ⟨rfl, hm⟩
    generalize (w6.alloc (.cells #[.int .i64 i, .int .i64 k] 3)) = w7 at hi7 hb7 s7 hy7 hm ⊢
    rcases H8.out with ⟨g1, g2⟩ | ⟨g1, g3, g2⟩ | ⟨g1, g3, g4, g2⟩ | ⟨g1, g3, g4, r, g2⟩
    all_goals
      rw [g2] at hm
      first
        | (obtain ⟨Tr, ur, rfl, _⟩ := hm)
        | subst hm
      clear g2
      try (have j1 : decide (k < 0) = true := decide_eq_true g3)
      try (have j1 : decide (k < 0) = false := decide_eq_false (by omega))
      try (have j2 : decide ((q.cOf : Int) ≤ k) = true := decide_eq_true g4)
      try (have j2 : decide ((q.cOf : Int) ≤ k) = false := decide_eq_false (by omega))
      go_wp2_with fail
      refine (itLen_any q _ _ _ hy7).mono ?_
      rintro e w' ⟨rfl, rfl⟩
      rw [g1]
      clear g1
      go_wp2_with fail
      refine (path_any t _ [] none 0 _ _ hi7 (by simp) (fun h => absurd rfl h)).mono ?_
      rintro e w' ⟨rfl, hm⟩
      rw [Hpn.out] at hm
      obtain ⟨T2, u2, rfl, hi8⟩ := hm
      go_wp2_with fail
      refine (show_fine t hF.out _ _ _ hi8 (HP.out.old hb7)).mono ?_
      rintro e w8 ⟨rfl, hb8⟩
      have hi8 := hi7.old hb8
      have hb8 := hb7.trans (hb8.mono s7)
      go_wp2_with fail
      refine (show_fine t hF.out _ _ _ hi8 (HP.out.old hb8)).mono ?_
      rintro e w9 ⟨rfl, hb9⟩
      have hb9 := hb8.trans (hb9.mono hb8.size)
      go_wp2
      go_ret
      exact ⟨rfl, hb9⟩
  all_goals
    rw [h1] at k3
    try (have i1 : decide (0 ≤ i) = false := decide_eq_false (by omega))
    try (have i1 : decide (0 ≤ i) = true := decide_eq_true h6)
    try (have i2 : decide (i < (t.cOf : Int)) = false := decide_eq_false (by omega))
    have H3 := Lib.hid h3
    have H4 := Lib.hid h4
    have H5 := Lib.hid h5
    clear h2 h3 h4 h5
    refine (at_any t _ i _ _ hi3).mono ?_
    rintro e w' ⟨rfl, hm⟩
    rw [H3.out] at hm
    subst hm
    go_wp2_with fail
    have hb4 : Below w3.heap.size w3 (w3.alloc (.cells #[.int .i64 i] 3)) := (Below.refl _ _).alloc (Nat.le_refl _) _
    have hi4 := hi3.old hb4
    have hb4 := hb3.trans (hb4.mono s3)
    have s4 := hb4.size
    refine (path_any t _ [i] _ 1 _ _ hi4 (by simp) (fun _ => places_one w3 i)).mono ?_
    rintro e w' ⟨rfl, hm⟩
    rw [H4.out] at hm
    subst hm
    generalize (w3.alloc (.cells #[.int .i64 i] 3)) = w4 at hi4 hb4 s4 ⊢
    go_wp2_with fail
    have hb5 : Below w4.heap.size w4 (w4.alloc (.cells #[.int .i64 i, .int .i64 k] 3)) := (Below.refl _ _).alloc (Nat.le_refl _) _
    have hi5 := hi4.old hb5
    have hb5 := hb4.trans (hb5.mono s4)
    have s5 := hb5.size
    refine (path_any t _ [i, k] _ 2 _ _ hi5 (by simp) (fun _ => places_two w4 i k)).mono ?_
    rintro e w' ⟨rfl, hm⟩
    rw [H5.out] at hm
    subst hm
    generalize (w4.alloc (.cells #[.int .i64 i, .int .i64 k] 3)) = w5 at hi5 hb5 s5 ⊢
    go_wp2_with fail
    refine (path_any t _ [] none 0 _ _ hi5 (by simp) (fun h => absurd rfl h)).mono ?_
    rintro e w' ⟨rfl, hm⟩
    rw [Hpn.out] at hm
    obtain ⟨T2, u2, rfl, hi6⟩ := hm
    go_wp2_with fail
    refine (show_fine t hF.out _ _ _ hi6 (HP.out.old hb5)).mono ?_
    rintro e w6 ⟨rfl, hb6⟩
    have hi6 := hi5.old hb6
    have hb6 := hb5.trans (hb6.mono s5)
    go_wp2_with fail
    refine (show_fine t hF.out _ _ _ hi6 (HP.out.old hb6)).mono ?_
    rintro e w7 ⟨rfl, hb7⟩
    have hb7 := hb6.trans (hb7.mono hb6.size)
    go_wp2
    go_ret
    exact ⟨rfl, hb7⟩

end Go.Proofs.YtkjekofllfkgoaaDoor
