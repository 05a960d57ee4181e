/- plumboblaw04.made, whole. Conditions: at most two hundred nodes, each as it came in; a depth of one to eight. -/
import Derived.Test.YtkjekofllfkgoaaDoorMade
namespace Go.Proofs.YtkjekofllfkgoaaDoor
open Go.RowKit

theorem own_src {w : World} {base : Nat} {e : TypeId} {size : Nat} {v : Value} {n : Nat} {xs : List Value} (h : w.ownsRow base e size v n xs) :
    ∃ a c, v = .slice a n c ∧ (a = none → n = 0) ∧ ∀ ad, a = some ad → ∀ j u, xs[j]? = some u → w.cell? (ad.add j) = some u := by
  rcases h.2 with ⟨hv, h0⟩ | ⟨g, cap, cur, hv, _⟩
  · exact ⟨none, 0, by rw [hv, h0], fun _ => h0, fun _ h => by cases h⟩
  · refine ⟨some ⟨g, 0, none⟩, cap, hv, (fun h => by cases h), fun ad had j u hj => ?_⟩
    injection had with had
    subst had
    exact h.cells (g := g) (by rw [hv]; rfl) j u hj

/-- Two rows of other types lie in other blocks. -/
theorem own_apart {w : World} {B B' : Nat} {e e' : TypeId} {s s' : Nat} {v v' : Value} {n n' : Nat} {xs xs' : List Value} (h : w.ownsRow B e s v n xs) (h' : w.ownsRow B' e' s' v' n' xs') (hne : e ≠ e') : ∀ k, v.ownBlock = some k → v'.ownBlock ≠ some k := by
  intro k hk hk'
  rcases h.2 with ⟨hv, _⟩ | ⟨g, cap, cur, hv, _, hg, _⟩
  · rw [hv] at hk; cases hk
  · rcases h'.2 with ⟨hv', _⟩ | ⟨g', cap', cur', hv', _, hg', _⟩
    · rw [hv'] at hk'; cases hk'
    · rw [hv] at hk; rw [hv'] at hk'
      have e1 : g = k := by simpa [Value.ownBlock] using hk
      have e2 : g' = k := by simpa [Value.ownBlock] using hk'
      rw [e1] at hg; rw [e2, hg] at hg'
      injection hg' with hg'
      injection hg' with _ h2 _
      exact hne h2

theorem Tryd.infoNode : (Tryd.prog.info? 58).map (fun i => (i.zero, i.size, i.bytes)) = some (some (.agg #[.int .i64 0, .int .i64 0, .string .empty, .int .i64 0]), 4, 40) := by kernel_rfl

/-- What is known while the items of a list are gathered. -/
structure Gath (w W : World) (va vn : Value) (done : List IT) : Prop where
  all : ∃ xs, W.ownsRow w.heap.size 24 1 va done.length xs ∧ ItmL W (fun b => w.heap.size ≤ b ∧ va.ownBlock ≠ some b ∧ vn.ownBlock ≠ some b) xs done
  nodes : W.ownsRow w.heap.size 58 4 vn (cntL done) (ndsL done)
  below : Below w.heap.size w W

theorem cntL_app (a b : List IT) : cntL (a ++ b) = cntL a + cntL b := by
  induction a with
  | nil => simp [cntL]
  | cons x a ih => rw [List.cons_append, cntL, cntL, ih]; omega

theorem gath_step {w W W1 W2 W3 : World} {va vn va' vn' y : Value} {done : List IT} {t : IT} {xs : List Value} (hs : w.heap.size ≤ W.heap.size)
    (hall : W.ownsRow w.heap.size 24 1 va done.length xs) (hit : ItmL W (fun b => w.heap.size ≤ b ∧ va.ownBlock ≠ some b ∧ vn.ownBlock ≠ some b) xs done)
    (hvn : W.ownsRow w.heap.size 58 4 vn (cntL done) (ndsL done)) (hb : Below w.heap.size w W)
    (hb1 : Below W.heap.size W W1) (hy : Itm W1 (W.heap.size ≤ ·) y t)
    (hall2 : W2.ownsRow w.heap.size 24 1 va' (done.length + 1) (xs ++ [y])) (hg2 : W1.grownBy W2 va.ownBlock) (hn2 : NewOrSame W1 va va')
    (hvn3 : W3.ownsRow w.heap.size 58 4 vn' (cntL done + t.cnt) (ndsL done ++ nds t)) (hg3 : W2.grownBy W3 vn.ownBlock) (hn3 : NewOrSame W2 vn vn') : Gath w W3 va' vn' (done ++ [t]) := by
  have hlen : xs.length = done.length := by have := hall.1; omega
  have va_lt : ∀ k, va.ownBlock = some k → k < W.heap.size := fun k hk => (hall.lt k hk).2
  have vn_lt : ∀ k, vn.ownBlock = some k → k < W.heap.size := fun k hk => (hvn.lt k hk).2
  have s1 := hb1.size
  have s2 := hg2.size
  have s3 := hg3.size
  -- the items behind each step
  have ok' : ∀ b, b < W1.heap.size → ((w.heap.size ≤ b ∧ va.ownBlock ≠ some b ∧ vn.ownBlock ≠ some b) ∨ W.heap.size ≤ b) → (w.heap.size ≤ b ∧ va.ownBlock ≠ some b ∧ vn.ownBlock ≠ some b) := by
    intro b hlt h
    rcases h with h | h
    · exact h
    · exact ⟨by omega, fun e => by have := va_lt b e; omega, fun e => by have := vn_lt b e; omega⟩
  have i1 : ItmL W1 (fun b => w.heap.size ≤ b ∧ va.ownBlock ≠ some b ∧ vn.ownBlock ≠ some b) xs done := ItmL.touch hit (Touch.of_below hb1 (fun _ => False)) (fun _ _ _ h => h)
  have y1 : Itm W1 (fun b => w.heap.size ≤ b ∧ va.ownBlock ≠ some b ∧ vn.ownBlock ≠ some b) y t := hy.mono (fun b h hlt => ok' b hlt (.inr h))
  have j1 := ItmL.snoc y1 hlen i1
  have cell3 : ∀ b j, (w.heap.size ≤ b ∧ va.ownBlock ≠ some b ∧ vn.ownBlock ≠ some b) → b < W1.heap.size → W3.cell? ⟨b, j, none⟩ = W1.cell? ⟨b, j, none⟩ := by
    intro b j ⟨_, h2, h3⟩ hlt
    rw [World.cell?_of_block (w := W2) (w' := W3) (a := ⟨b, j, none⟩) (hg3.block b (by omega) (fun e => h3 e.symm)), World.cell?_of_block (w := W1) (w' := W2) (a := ⟨b, j, none⟩) (hg2.block b hlt (fun e => h2 e.symm))]
  have j3 : ItmL W3 (fun b => w.heap.size ≤ b ∧ va'.ownBlock ≠ some b ∧ vn'.ownBlock ≠ some b) (xs ++ [y]) (done ++ [t]) := by
    refine ItmL.carry (by omega) cell3 (fun b ⟨h1, h2, h3⟩ hlt => ⟨h1, fun e => ?_, fun e => ?_⟩) _ _ j1
    · rcases hn2 with hn | hn
      · exact h2 (by rw [← hn]; exact e)
      · have := hn b e; omega
    · rcases hn3 with hn | hn
      · exact h3 (by rw [← hn]; exact e)
      · have := hn b e; omega
  have ne2 := own_apart hall2 (B' := w.heap.size) (e' := 58) (s' := 4) (v' := vn) (n' := cntL done) (xs' := ndsL done)
  refine ⟨⟨xs ++ [y], ?_, j3⟩, by rw [cntL_snoc, ndsL_snoc]; exact hvn3, ?_⟩
  · rw [List.length_append, List.length_singleton]
    refine (Touch.grown hg3).own hall2 (fun k hk e => ?_)
    have hvn2 : W2.ownsRow w.heap.size 58 4 vn (cntL done) (ndsL done) := by
      have h1 := (Touch.of_below hb1 (fun _ => False)).own hvn (fun _ _ h => h)
      exact (Touch.grown hg2).own h1 (fun k hk e => own_apart hvn hall (by decide) k hk e.symm)
    exact ne2 hvn2 (by decide) k hk e.symm
  · exact ((hb.trans (hb1.mono hs)).grown hg2 (by omega) (fun k hk => (hall.lt k hk).1)).grown hg3 (by omega) (fun k hk => (hvn.lt k hk).1)

theorem Gath.vn_after {w W W1 W2 : World} {va vn : Value} {done : List IT} {xs : List Value}
    (hall : W.ownsRow w.heap.size 24 1 va done.length xs) (hvn : W.ownsRow w.heap.size 58 4 vn (cntL done) (ndsL done)) (hb1 : Below W.heap.size W W1) (hg2 : W1.grownBy W2 va.ownBlock) : W2.ownsRow w.heap.size 58 4 vn (cntL done) (ndsL done) := by
  have h1 := (Touch.of_below hb1 (fun _ => False)).own hvn (fun _ _ h => h)
  exact (Touch.grown hg2).own h1 (fun k hk e => own_apart hvn hall (by decide) k hk e.symm)

theorem Gath.zero (w : World) (o : Obj) : Gath w (w.alloc o) (.slice none 0 0) (.slice none 0 0) [] :=
  ⟨⟨[], World.ownsRow_nil _ _ _ _, by rw [ItmL]; trivial⟩, by rw [cntL, ndsL]; exact World.ownsRow_nil _ _ _ _, (Below.refl _ _).alloc (Nat.le_refl _) _⟩

theorem ext_eq {done : List IT} {t : IT} {rest : List IT} : done ++ (t :: rest) = done ++ [t] ++ rest := by simp

set_option maxRecDepth 100000 in
set_option maxHeartbeats 4000000 in
theorem made_list (a : Option Addr) (len cap : Nat) (l : List NdV) (hl : l.length = len) (hlen : len ≤ 200) (hok : ∀ p ∈ l, p.ok) (d : Nat) (hd1 : 1 ≤ d) (hd8 : d ≤ 7)
    (ih : ∀ (k : Nat) (w : World), k ≤ len + 8 → NodesAt w (.slice a len cap) l → Calls Tryd.prog 9 #[.slice a len cap, .int .i64 k, .int .i64 d] w (MadePost (mk l d k).1 (mk l d k).2 w))
    (k : Nat) (x : NdV) (w : World) (hx : l[k]? = some x) (hN : NodesAt w (.slice a len cap) l) (h2 : x.kind % 4 = 2) :
    Calls Tryd.prog 9 #[.slice a len cap, .int .i64 k, .int .i64 ((d : Int) + 1)] w (MadePost (mk l (d + 1) k).1 (mk l (d + 1) k).2 w) := by
  have hst := Lib.hid (mk_steps l hok (by omega) d hd1 (by omega))
  have Hmk := Lib.hid (mk_list hx h2 hd1)
  have HN := Lib.hid hN
  have Hl := Lib.hid hl
  have Hok := Lib.hid hok
  have IH := Lib.hid ih
  have hlt : k < len := by
    rw [← hl]
    rcases Nat.lt_or_ge k l.length with h | h
    · exact h
    · rw [List.getElem?_eq_none h] at hx; cases hx
  obtain ⟨a', cap', hv, _, hPk⟩ := hN
  injection hv with e1 e2 e3
  clear e2 e3
  subst e1
  obtain ⟨bb, off, rfl, hbb, hr⟩ := hPk k x hx
  have c0 := hr 0 _ rfl
  have c1 := hr 1 _ rfl
  have c2 := hr 2 _ rfl
  rw [Nat.add_zero] at c0
  clear hr hPk hx hl hok ih
  have hkd := kd_walk x.kind
  rw [h2] at hkd
  clear h2
  have hd2 : decide (((d : Int) + 1) < 2) = false := by simp; omega
  have hge : decide (len ≤ k) = false := decide_eq_false (by omega)
  go_enter Tryd.func9, Tryd.ntmps9
  go_wp2_with fail
  have hG := Gath.zero w (.cells #[.int .i64 x.kind, .int .i64 x.n, .string x.text] 64)
  generalize (w.alloc (.cells #[.int .i64 x.kind, .int .i64 x.n, .string x.text] 64)) = w1 at hG ⊢
  clear c0 c1 c2 hkd hd2 hge
  go_loopw [1, 11, 12] (fun at' va vn W => ∃ (k' n : Nat) (done : List IT), at' = .int .i64 k' ∧ k' ≤ len + 7 ∧ len ≤ n + k' ∧ (mkL (mk l d) l l.length (k + 1)) = (done ++ (mkL (mk l d) l n k').1, (mkL (mk l d) l n k').2) ∧ Gath w W va vn done) (fun at' _ _ _ => len - (intOf at').toNat)
  case atStart => exact ⟨k + 1, len, [], by simp, by omega, by omega, by rw [List.nil_append, ← Hl.out], hG⟩
  case round =>
    obtain ⟨k', n, done, rfl, hk7, hn, hdone, hG⟩ := hrel
    obtain ⟨⟨xs, hall, hit⟩, hvn, hb⟩ := hG
    have hs := hb.size
    by_cases hgo : ∃ y, l[k']? = some y ∧ y.kind % 4 ≠ 3
    · obtain ⟨y, hy, h3⟩ := hgo
      have hlt2 : k' < len := by
        rw [← Hl.out]
        rcases Nat.lt_or_ge k' l.length with h | h
        · exact h
        · rw [List.getElem?_eq_none h] at hy; cases hy
      have hN2 := HN.out.below hb
      obtain ⟨a', cap', hv, _, hPk⟩ := hN2
      injection hv with e1 e2 e3
      clear e2 e3
      subst e1
      obtain ⟨bb2, off2, hbo, hbb2, hr⟩ := hPk k' y hy
      injection hbo with hbo
      injection hbo with e1 e2
      subst e1 e2
      have c0 := hr 0 _ rfl
      rw [Nat.add_zero] at c0
      clear hr hPk
      have hkd := kd_walk y.kind
      have hkd3 : (y.kind % 4 != 3) = true := bne_iff_ne.2 h3
      obtain ⟨n', rfl⟩ : ∃ n', n = n' + 1 := ⟨n - 1, by omega⟩
      have hst2 := hst.out
      have hll := Hl.out
      obtain ⟨_, m2, m3, _, _⟩ := mkL_facts hst2 l.length (k + 1)
      have m2' := m2 d (by omega) (Nat.le_refl _)
      have up := hst2.up k' (by omega)
      have top := hst2.top k' 0 (by omega)
      have IH2 := Lib.hid (IH.out k' wr (by omega) (HN.out.below hb))
      rw [mkL_step hy h3] at hdone
      rw [hdone, cntL_app, cntL] at m3
      rw [hdone] at m2'
      have hcnt : cntL done + (mk l d k').1.cnt ≤ 400 := by simp only at m3 m2'; omega
      have hdl := len_le_cnt done
      have hcp := cnt_pos (mk l d k').1
      generalize mk l d k' = r at IH2 up top hdone hcnt hcp
      obtain ⟨t, k2⟩ := r
      simp only at up top hdone hcnt IH2 hcp
      have top2 : k2 ≤ len + 7 := by omega
      have Hdone := Lib.hid hdone
      have Hall := Lib.hid hall
      have Hit := Lib.hid hit
      have Hvn := Lib.hid hvn
      have Hlt := Lib.hid hlt2
      have Hlx := Lib.hid (show xs.length = done.length by have := hall.1; omega)
      clear hdone hall hit hvn hst2 hll m2 m3 m2' h3 hy
      go_wp2_with fail
      refine IH2.out.mono ?_
      rintro e w2 ⟨yv, nv, rfl, hyi, hno, hb1⟩
      obtain ⟨TT, uu, rfl⟩ := hyi.one
      clear hkd hkd3 c0
      have hall1 := (Touch.of_below hb1 (fun _ => False)).own Hall.out (fun _ _ h => h)
      have hs1 := hb1.size
      go_wp2_with (at_builtin; refine Hid.out ?_)
      unfold Hid
      refine wpList_appW rfl rfl Tryd.underlying42 Tryd.infoItem rfl 1 hall1 rfl rfl rfl ?_ ?_ ?_ (by omega) ?_
      · simp [Value.oneCell']
      · omega
      · unfold maxLen; omega
      intro va' w3 hall2 hg2 hn2
      have hvn2 := Gath.vn_after Hall.out Hvn.out hb1 hg2
      have hno2 := (Touch.grown hg2).own hno (fun k hk e => by
        have h1 := (hno.lt k hk).1
        have h2 := (Hall.out.lt k e.symm).2
        omega)
      have hs2 := hg2.size
      obtain ⟨a2, c2, rfl, hnone, hcells⟩ := own_src hno2
      have Hcells := Lib.hid hcells
      have Hnone := Lib.hid hnone
      clear hcells hnone
      obtain ⟨aa, ca, rfl⟩ := own_shape hall2
      go_wp2_with (at_builtin; refine Hid.out ?_)
      unfold Hid
      refine wpList_appSrc rfl rfl 4 Tryd.underlying25 Tryd.underlying25 Tryd.infoNode rfl (by decide) hvn2 rfl (news := nds t) rfl (nds_len t) Hnone.out Hcells.out (nds_one t) (by unfold maxLen; omega) (by omega) (by omega) ?_
      intro vn' w4 hvn3 hg3 hn3
      have hG2 := gath_step hs Hall.out Hit.out Hvn.out hb hb1 hyi hall2 hg2 hn2 hvn3 hg3 hn3
      obtain ⟨an, cn, rfl⟩ := own_shape hvn3
      clear hvn2 hvn3 hg2 hn2 hg3 hn3 hno hno2 hall1 hall2 hyi
      go_wp2
      go_roundw
      case rel => exact ⟨k2, n', _, rfl, by omega, by omega, by rw [Hdone.out, ext_eq], hG2⟩
      case measure => simp [intOf]; have := Hlt.out; omega
    · have hstop : ∀ x, l[k']? = some x → x.kind % 4 = 3 := fun x hx => by
        rcases Decidable.em (x.kind % 4 = 3) with h | h
        · exact h
        · exact absurd ⟨x, hx, h⟩ hgo
      rw [mkL_stop hstop, List.append_nil] at hdone
      have hst2 := hst.out
      have hll := Hl.out
      obtain ⟨_, m2, m3, _, m5⟩ := mkL_facts hst2 l.length (k + 1)
      have m2' := m2 d (by omega) (Nat.le_refl _)
      rw [hdone] at m3 m2' m5
      simp only at m3 m2' m5
      have hdl := len_le_cnt done
      have Hmk2 := Lib.hid (show mk l (d + 1) k = (IT.list done, k' + 1) by rw [Hmk.out, hdone])
      have Hall := Lib.hid hall
      have Hit := Lib.hid hit
      have Hvn := Lib.hid hvn
      have Hlx := Lib.hid (show xs.length = done.length by have := hall.1; omega)
      obtain ⟨aa, ca, rfl⟩ := own_shape hall
      obtain ⟨an, cn, rfl⟩ := own_shape hvn
      have hd400 : cntL done ≤ 400 := by omega
      have hways : (∃ y, l[k']? = some y ∧ y.kind % 4 = 3) ∨ len ≤ k' := by
        rcases Nat.lt_or_ge k' l.length with h | h
        · exact .inl ⟨_, List.getElem?_eq_getElem h, hstop _ (List.getElem?_eq_getElem h)⟩
        · exact .inr (by omega)
      have Hold : Holder wr (fun b => w.heap.size ≤ b ∧ (Value.slice aa done.length ca).ownBlock ≠ some b ∧ (Value.slice an (cntL done) cn).ownBlock ≠ some b) aa done := by
        refine ⟨xs, Hlx.out, by omega, fun hne => ?_, Hit.out⟩
        obtain ⟨g, c, hv, _, hg, _, hc⟩ := own_open Hall.out (by simpa using hne)
        injection hv with e1 e2 e3
        exact ⟨g, e1, hg, hc⟩
      clear hdone hall hit hvn hst2 hll m2 m3 m2' hgo hstop
      rcases hways with ⟨y, hy, h3⟩ | hge
      · have hlt2 : k' < len := by
          rw [← Hl.out]
          rcases Nat.lt_or_ge k' l.length with h | h
          · exact h
          · rw [List.getElem?_eq_none h] at hy; cases hy
        have hN2 := HN.out.below hb
        obtain ⟨a', cap', hv, _, hPk⟩ := hN2
        injection hv with e1 e2 e3
        clear e2 e3
        subst e1
        obtain ⟨bb2, off2, hbo, hbb2, hr⟩ := hPk k' y hy
        injection hbo with hbo
        injection hbo with e1 e2
        subst e1 e2
        have c0 := hr 0 _ rfl
        rw [Nat.add_zero] at c0
        clear hr hPk hy
        have hkd := kd_walk y.kind
        rw [h3] at hkd
        clear h3
        go_wp2_with fail
        refine (itList_any aa ca done wr _ Hold).mono ?_
        rintro e w2 ⟨vv, rfl, hvi, hb1⟩
        obtain ⟨TT, uu, rfl⟩ := hvi.one
        have hs1 := hb1.size
        have hvn2 := (Touch.of_below hb1 (fun _ => False)).own Hvn.out (fun _ _ h => h)
        obtain ⟨a2, c2, hv2, hnone, hcells⟩ := own_src (hvn2.alloc (.cells #[.int .i64 3, .int .i64 0, .string ⟨#[]⟩, .int .i64 done.length] 58))
        injection hv2 with e1 e2 e3
        subst e1 e3
        have Hcells := Lib.hid hcells
        have Hnone := Lib.hid hnone
        have Hvi := Lib.hid hvi
        clear hcells hnone hvn2 e2 hvi Hold
        try clear hkd c0
        try clear hge'
        go_wp2_with (at_builtin; refine Hid.out ?_)
        unfold Hid
        refine wpList_appSrc rfl rfl 4 Tryd.underlying25 Tryd.underlying25 Tryd.infoNode rfl (by decide) (own_one w2 #[.int .i64 3, .int .i64 0, .string ⟨#[]⟩, .int .i64 done.length] 58 4 w.heap.size (by omega) rfl) rfl (news := ndsL done) rfl (ndsL_len done) Hnone.out Hcells.out (ndsL_one done) (by unfold maxLen; omega) (by omega) (by simp; omega) ?_
        intro v3 w3 ho3 hg3 _
        have hb3 : Below w2.heap.size w2 w3 := ((Below.refl _ _).alloc (Nat.le_refl _) _).grown hg3 (by simp) (by simp [Value.ownBlock])
        rw [Nat.add_comm 1] at ho3
        obtain ⟨a3, c3, rfl⟩ := own_shape ho3
        have Ho := Lib.hid ho3
        clear ho3 hg3
        go_wp2
        go_ret3
        rw [Hmk2.out]
        refine ⟨_, _, rfl, (Hvi.out.below hb3 (fun _ _ h => h)).mono (fun b h _ => ?_), ?_, hb.trans ((hb1.mono hs).trans (hb3.mono (by omega)))⟩
        · rcases h with h | h
          · exact h.1
          · omega
        · rw [IT.cnt, nds]; exact Ho.out
      · have hge' : decide (k' < len) = false := decide_eq_false (by omega)
        go_wp2_with fail
        refine (itList_any aa ca done wr _ Hold).mono ?_
        rintro e w2 ⟨vv, rfl, hvi, hb1⟩
        obtain ⟨TT, uu, rfl⟩ := hvi.one
        have hs1 := hb1.size
        have hvn2 := (Touch.of_below hb1 (fun _ => False)).own Hvn.out (fun _ _ h => h)
        obtain ⟨a2, c2, hv2, hnone, hcells⟩ := own_src (hvn2.alloc (.cells #[.int .i64 3, .int .i64 0, .string ⟨#[]⟩, .int .i64 done.length] 58))
        injection hv2 with e1 e2 e3
        subst e1 e3
        have Hcells := Lib.hid hcells
        have Hnone := Lib.hid hnone
        have Hvi := Lib.hid hvi
        clear hcells hnone hvn2 e2 hvi Hold
        try clear hkd c0
        try clear hge'
        go_wp2_with (at_builtin; refine Hid.out ?_)
        unfold Hid
        refine wpList_appSrc rfl rfl 4 Tryd.underlying25 Tryd.underlying25 Tryd.infoNode rfl (by decide) (own_one w2 #[.int .i64 3, .int .i64 0, .string ⟨#[]⟩, .int .i64 done.length] 58 4 w.heap.size (by omega) rfl) rfl (news := ndsL done) rfl (ndsL_len done) Hnone.out Hcells.out (ndsL_one done) (by unfold maxLen; omega) (by omega) (by simp; omega) ?_
        intro v3 w3 ho3 hg3 _
        have hb3 : Below w2.heap.size w2 w3 := ((Below.refl _ _).alloc (Nat.le_refl _) _).grown hg3 (by simp) (by simp [Value.ownBlock])
        rw [Nat.add_comm 1] at ho3
        obtain ⟨a3, c3, rfl⟩ := own_shape ho3
        have Ho := Lib.hid ho3
        clear ho3 hg3
        go_wp2
        go_ret3
        rw [Hmk2.out]
        refine ⟨_, _, rfl, (Hvi.out.below hb3 (fun _ _ h => h)).mono (fun b h _ => ?_), ?_, hb.trans ((hb1.mono hs).trans (hb3.mono (by omega)))⟩
        · rcases h with h | h
          · exact h.1
          · omega
        · rw [IT.cnt, nds]; exact Ho.out

/-- made, of whatever nodes. -/
theorem made_any (a : Option Addr) (len cap : Nat) (l : List NdV) (hl : l.length = len) (hlen : len ≤ 200) (hok : ∀ p ∈ l, p.ok) (d : Nat) : 1 ≤ d → d ≤ 8 → ∀ (k : Nat) (w : World), k ≤ len + 8 → NodesAt w (.slice a len cap) l →
    Calls Tryd.prog 9 #[.slice a len cap, .int .i64 k, .int .i64 d] w (MadePost (mk l d k).1 (mk l d k).2 w) := by
  induction d with
  | zero => intro h; omega
  | succ d ih =>
    intro _ hd8 k w hk hN
    have e : (((d + 1 : Nat) : Int)) = (d : Int) + 1 := by omega
    cases hx : l[k]? with
    | none =>
      have hle : len ≤ k := by rw [← hl]; exact List.getElem?_eq_none_iff.1 hx
      rw [mk_none _ (by omega)]
      exact made_end a len cap k _ w hle
    | some x =>
      by_cases h1 : x.kind % 4 = 1
      · rw [mk_text hx h1]; exact made_leaf a len cap k _ l x w hl hx hN h1 (by omega)
      · by_cases h2 : x.kind % 4 = 2
        · by_cases hd : 1 ≤ d
          · rw [e]; exact made_list a len cap l hl hlen hok d hd (by omega) (ih hd (by omega)) k x w hx hN h2
          · rw [mk_num hx h1 (fun _ => by omega)]; exact made_num a len cap k _ l x w hl hx hN h1 (fun _ => by omega) (by omega)
        · rw [mk_num hx h1 (fun h => absurd h h2)]; exact made_num a len cap k _ l x w hl hx hN h1 (fun h => absurd h h2) (by omega)

end Go.Proofs.YtkjekofllfkgoaaDoor
