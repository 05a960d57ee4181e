/- item.Same: whether two items are the same. Conditions: items as made makes them; strconv's table of powers holds what its initialiser lays. -/
import Derived.Test.YtkjekofllfkgoaaDoorItSamePlain
import Derived.Test.YtkjekofllfkgoaaDoorRefEnc
import Derived.Deep.RegionHeld3
namespace Go.Proofs.YtkjekofllfkgoaaDoor
open Go.RowKit

theorem Itm.drew {w : World} {ok : Nat → Prop} {v : Value} {t : IT} (h : Itm w ok v t) : Itm w.drew ok v t :=
  Itm.carry (w := w) (w' := w.drew) (ok := ok) (ok' := ok) (Nat.le_refl _) (fun _ _ _ _ => rfl) (fun _ h _ => h) t v h
theorem cnt_mem : ∀ {l : List IT} {t : IT}, t ∈ l → t.cnt ≤ cntL l
  | t0 :: l, t, h => by
    rw [cntL]
    rcases List.mem_cons.1 h with rfl | h
    · omega
    · have := cnt_mem h; omega
theorem Fine.mem {l : List IT} (h : Fine (.list l)) {t : IT} (ht : t ∈ l) : Fine t := by
  have h1 := h.good; have h2 := h.dep; have h3 := h.cnt
  rw [IT.good] at h1; rw [IT.dep] at h2; rw [IT.cnt] at h3
  have := dep_mem ht
  have := cnt_mem ht
  exact ⟨goodL_mem h1.2 t ht, by omega, by omega⟩

set_option maxRecDepth 100000 in
theorem same_leaf (t u : IT) (T : TypeId) (v : Value) (y : Value) (w : World) (ok : Nat → Prop) (hT : T ≠ 85) (ht : t.dep = 1) (hl : ∀ l, t ≠ .list l) (fu : Fine u) (ft : Fine t) (hi : Itm w ok (.iface T v) t) (hj : Itm w ok y u) (hp : Pow w) (b : Bool) (hb : b = true ↔ t = u) :
    Calls Tryd.prog 18 #[.iface T v, y] w fun e w' => e = .returned (.bool b) ∧ Below w.heap.size w w' := by
  have h1 := run_assert_miss (P := Tryd.prog) plainList zeroList hT v 24
  have h2 : ∃ x f, ∀ w, (Instr.typeAssert y 24 85 true).run Tryd.prog w = .ok (.tuple #[x, .bool f]) w := by
    match u, hj with
    | .num n, hj => rw [Itm.num_eq] at hj; subst hj; exact ⟨_, _, run_assert_miss (P := Tryd.prog) plainList zeroList (by decide) _ 24⟩
    | .text n, hj => rw [Itm.text_eq] at hj; subst hj; exact ⟨_, _, run_assert_miss (P := Tryd.prog) plainList zeroList (by decide) _ 24⟩
    | .list n, hj =>
      rw [Itm.list_eq] at hj
      obtain ⟨a, cap, xs, rfl, _⟩ := hj
      exact ⟨_, _, run_assert_hit (P := Tryd.prog) plainList _ 24⟩
  obtain ⟨x, f, h2⟩ := h2
  obtain ⟨Ty, vy, rfl⟩ := hj.one
  have HB := Lib.hid hb
  have HP := Lib.hid hp
  have HI := Lib.hid hi
  have HJ := Lib.hid hj
  have HS := Lib.hid (leaf_same (u := u) ht hl)
  clear hT hb hp hi hj ht hl
  have hq : ∀ c : Bool, (c = true ↔ (u.dep = 1 ∧ t.shw = u.shw)) → c = b := fun c hc => by
    have h3 := hc.trans (HS.out.trans HB.out.symm)
    cases c <;> cases b <;> simp_all
  by_cases hd : u.dep = 1
  · have hd' : ((u.dep : Int) == 1) = true := by simp [hd]
    go_enter Tryd.func18, Tryd.ntmps18
    go_wp2_with fail
    refine (depth_any 8 (by decide) u _ _ ok fu.dep HJ.out).mono ?_
    rintro e w' ⟨rfl, rfl⟩
    go_wp2_with fail
    refine (show_fine t ft _ _ _ HI.out HP.out).mono ?_
    rintro e w1 ⟨rfl, hb1⟩
    go_wp2_with fail
    refine (show_fine u fu _ _ _ (HJ.out.old hb1) (HP.out.old hb1)).mono ?_
    rintro e w2 ⟨rfl, hb2⟩
    have hb2 := hb1.trans (hb2.mono hb1.size)
    go_wp2
    have hqq : (t.shw == u.shw) = b := hq (t.shw == u.shw) (by simp [hd])
    rw [hqq]
    clear hq hqq hd' h1 h2
    go_ret
    exact ⟨rfl, hb2⟩
  · have hbf : false = b := hq false (by simp [hd])
    subst hbf
    clear hq
    have hd' : ((u.dep : Int) == 1) = false := by simp; omega
    go_enter Tryd.func18, Tryd.ntmps18
    go_wp2_with fail
    refine (depth_any 8 (by decide) u _ _ ok fu.dep HJ.out).mono ?_
    rintro e w' ⟨rfl, rfl⟩
    generalize u.dep = d at hd' ⊢
    go_wp2
    go_ret
    exact ⟨rfl, Below.refl _ _⟩

/-- x is nil. -/
theorem same_nilx (T : TypeId) (v : Value) (w : World) (x : Value) (f : Bool) (h2 : ∀ w, (Instr.typeAssert (.iface T v) 24 85 true).run Tryd.prog w = .ok (.tuple #[x, .bool f]) w) :
    Calls Tryd.prog 18 #[.nilIface, .iface T v] w fun e w' => e = .returned (.bool false) ∧ Below w.heap.size w w' := by
  have h1 := run_assert_nil (P := Tryd.prog) plainList zeroList 24
  go_enter Tryd.func18, Tryd.ntmps18
  go_wp2
  go_ret
  exact ⟨rfl, Below.refl _ _⟩

set_option maxRecDepth 100000 in
theorem same_listno (a : Option Addr) (len cap : Nat) (y : Value) (w : World) (x : Value) (h2 : ∀ w, (Instr.typeAssert y 24 85 true).run Tryd.prog w = .ok (.tuple #[x, .bool false]) w) :
    Calls Tryd.prog 18 #[.iface 85 (.slice a len cap), y] w fun e w' => e = .returned (.bool false) ∧ Below w.heap.size w w' := by
  have h1 := run_assert_hit (P := Tryd.prog) plainList (.slice a len cap) 24
  go_enter Tryd.func18, Tryd.ntmps18
  go_wp2
  go_ret
  exact ⟨rfl, Below.refl _ _⟩

set_option maxRecDepth 100000 in
set_option maxHeartbeats 2000000 in
theorem same_any (m : Nat) : ∀ (t u : IT) (v y : Value) (w : World) (ok : Nat → Prop), t.dep ≤ m → Fine t → Fine u → Itm w ok v t → Itm w ok y u → Pow w → ∀ b : Bool, (b = true ↔ t = u) →
    Calls Tryd.prog 18 #[v, y] w fun e w' => e = .returned (.bool b) ∧ Below w.heap.size w w' := by
  induction m with
  | zero => intro t u v y w ok hd; cases t <;> simp [IT.dep] at hd
  | succ m ih =>
    intro t u v y w ok hd ft fu hi hj hp bb hbb
    match t, hd, ft, hi, hbb with
    | .num n, _, ft, hi, hbb => have hi' := hi; rw [Itm.num_eq] at hi; subst hi; exact same_leaf _ u _ _ y w ok (by decide) (by rw [IT.dep]) (fun _ h => by cases h) fu ft hi' hj hp bb hbb
    | .text s, _, ft, hi, hbb => have hi' := hi; rw [Itm.text_eq] at hi; subst hi; exact same_leaf _ u _ _ y w ok (by decide) (by rw [IT.dep]) (fun _ h => by cases h) fu ft hi' hj hp bb hbb
    | .list p, hd, ft, hi, hbb =>
      have Hi := Lib.hid hi
      rw [Itm.list_eq] at hi
      obtain ⟨a, cap, xs, rfl, hlen, hmax, ha, hx⟩ := hi
      match u, hj, fu, hbb with
      | .num n, hj, _, hbb =>
        rw [Itm.num_eq] at hj; subst hj
        obtain rfl : bb = false := by cases bb <;> simp_all
        exact same_listno a _ cap _ w _ (run_assert_miss (P := Tryd.prog) plainList zeroList (by decide) _ 24)
      | .text n, hj, _, hbb =>
        rw [Itm.text_eq] at hj; subst hj
        obtain rfl : bb = false := by cases bb <;> simp_all
        exact same_listno a _ cap _ w _ (run_assert_miss (P := Tryd.prog) plainList zeroList (by decide) _ 24)
      | .list q, hj, fu, hbb =>
        have Hj := Lib.hid hj
        rw [Itm.list_eq] at hj
        obtain ⟨a2, cap2, xs2, rfl, hlen2, hmax2, ha2, hx2⟩ := hj
        rw [IT.dep] at hd
        have h1 := run_assert_hit (P := Tryd.prog) plainList (.slice a p.length cap) 24
        have h2 := run_assert_hit (P := Tryd.prog) plainList (.slice a2 q.length cap2) 24
        have HX := Lib.hid hx
        have HA := Lib.hid ha
        have HX2 := Lib.hid hx2
        have HA2 := Lib.hid ha2
        have HBB := Lib.hid hbb
        have HP := Lib.hid hp
        clear hx ha hx2 ha2 hbb hlen hlen2 hp
        by_cases hpq : p.length = q.length
        · rw [hpq] at h1 ⊢
          have Hpq := Lib.hid hpq
          clear hpq
          go_enter Tryd.func18, Tryd.ntmps18
          go_wp2_with fail
          clear h1 h2 hi hj hbb
          go_loopw [54] (fun i W => ∃ k : Nat, k ≤ q.length ∧ i = .int .i64 k ∧ p.take k = q.take k ∧ Below w.heap.size w W) (fun i _ => q.length - (intOf i).toNat)
          case atStart => exact ⟨0, Nat.zero_le _, rfl, rfl, Below.refl _ _⟩
          case round =>
            obtain ⟨k, hk, rfl, hkk, hbw⟩ := hrel
            have Hkk := Lib.hid hkk
            clear hkk
            by_cases hlt : k < q.length
            · obtain ⟨g1, T1, u1, t1, rfl, hg1, _, ht1, hm1, hc1, hit1⟩ := Itm.cell_at HX.out HA.out k (by have := Hpq.out; omega)
              obtain ⟨g2, T2, u2, t2, rfl, hg2, _, ht2, hm2, hc2, hit2⟩ := Itm.cell_at HX2.out HA2.out k hlt
              have hc1 : wr.cell? ⟨g1, k, none⟩ = some (.iface T1 u1) := (hbw.cell (p := ⟨g1, k, none⟩) hg1).trans hc1
              have hc2 : wr.cell? ⟨g2, k, none⟩ = some (.iface T2 u2) := (hbw.cell (p := ⟨g2, k, none⟩) hg2).trans hc2
              have htk : p.take (k + 1) = p.take k ++ [t1] := by rw [List.take_add_one, ht1]; rfl
              have huk : q.take (k + 1) = q.take k ++ [t2] := by rw [List.take_add_one, ht2]; rfl
              have hd1 := dep_mem hm1
              have hcall := Lib.hid (fun b (hb : b = true ↔ t1 = t2) => ih t1 t2 (.iface T1 u1) (.iface T2 u2) wr.drew ok (by omega) (ft.mem hm1) (fu.mem hm2) ((hit1.old hbw).drew) ((hit2.old hbw).drew) (HP.out.old (hbw.trans (c := wr.drew) ⟨rfl, rfl, rfl, Nat.le_refl _, fun _ _ => rfl⟩)) b hb)
              by_cases h12 : t1 = t2
              · go_wp2_with fail
                go_region_with (go_at_call 18; refine (hcall.out true (by simp [h12])).mono ?_; rintro e w' ⟨rfl, hb'⟩)
                all_goals
                  go_wp2
                  subst h12
                  exact ⟨⟨k + 1, by omega, by go_num, by rw [htk, huk, Hkk.out], (hbw.trans (c := wr.drew) ⟨rfl, rfl, rfl, Nat.le_refl _, fun _ _ => rfl⟩).trans (hb'.mono hbw.size)⟩, by simp [intOf]; omega⟩
              · obtain rfl : false = bb := by
                  have := HBB.out
                  have h3 : p ≠ q := fun e => by subst e; rw [ht1] at ht2; injection ht2 with ht2; exact h12 ht2
                  cases bb
                  · rfl
                  · exact absurd (IT.list.inj (this.1 rfl)) h3
                go_wp2_with fail
                go_region_with (go_at_call 18; refine (hcall.out false (by simp [h12])).mono ?_; rintro e w' ⟨rfl, hb'⟩)
                all_goals
                  go_wp2
                  go_ret
                  exact ⟨rfl, (hbw.trans (c := wr.drew) ⟨rfl, rfl, rfl, Nat.le_refl _, fun _ _ => rfl⟩).trans (hb'.mono hbw.size)⟩
            · obtain rfl : k = q.length := by omega
              have hbt : true = bb := by
                have := HBB.out
                have h3 := Hkk.out
                rw [List.take_length, ← Hpq.out, List.take_length] at h3
                subst h3
                exact (this.2 rfl).symm
              subst hbt
              go_wp2
              go_ret
              exact ⟨rfl, hbw⟩
        · obtain rfl : bb = false := by
            have := HBB.out
            cases bb
            · rfl
            · exact absurd (congrArg List.length (IT.list.inj (this.1 rfl))) hpq
          go_enter Tryd.func18, Tryd.ntmps18
          go_wp2
          go_ret
          exact ⟨rfl, Below.refl _ _⟩

end Go.Proofs.YtkjekofllfkgoaaDoor
