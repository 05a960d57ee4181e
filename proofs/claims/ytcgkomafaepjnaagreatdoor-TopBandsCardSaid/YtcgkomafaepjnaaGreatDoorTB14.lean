/- Package trans: Check of a transition that was made. Conditions: changes of one band, few and short. | slices.Chunk: the function itself, its law for a loop over it; marks taken at a function's end; a row in a box that a loop's own marks leave. Conditions: as Chunk's. | Package band: Root above the nodes of a level. Conditions: a depth of at most three. | TopBands: what is put: names and values cut at twenty bytes; the keys of names. Conditions: none of a program's run. -/
import Derived.Test.YtcgkomafaepjnaaGreatDoorTB13
namespace Go.Proofs.YtcgkomafaepjnaaGreatDoor
open Go.RowKit

theorem six_of_cells {w : World} {g o : Nat} {s : Stp} (h : ∀ i, i < 6 → w.cell? ⟨g, o + i, none⟩ = s.cells[i]?) :
    w.cell? ⟨g, o, none⟩ = some (.string ⟨s.k.toArray⟩) ∧ w.cell? ⟨g, o + 1, none⟩ = some (.string ⟨s.v.toArray⟩) ∧ w.cell? ⟨g, o + 2, none⟩ = some (.slice s.a s.pf.beside.length s.c) ∧ w.cell? ⟨g, o + 3, none⟩ = some (.bool s.pf.there) ∧ w.cell? ⟨g, o + 4, none⟩ = some (.string ⟨s.pf.key.toArray⟩) ∧ w.cell? ⟨g, o + 5, none⟩ = some (.string ⟨s.pf.val.toArray⟩) :=
  ⟨h 0 (by decide), h 1 (by decide), h 2 (by decide), h 3 (by decide), h 4 (by decide), h 5 (by decide)⟩

set_option maxRecDepth 100000 in
set_option maxHeartbeats 8000000 in
theorem check_any (m : Puts) (bn d n sc : Nat) (sa : Option Addr) (l : List Stp) (cs : Puts) (w : World) (hK : Kon w) (ho : ∃ R, w.ownsRow R 121 6 (.slice sa n sc) n (stCells l)) (hn : l.length = n) (hl : (l.map fun s => (s.k, s.v)) = cs) (hc : Chained d m l) (hrows : ∀ s ∈ l, Keyrow w s.a s.c s.pf.beside)
    (hd : d ≤ 3) (hbn : bn < 2 ^ d) (hfew : n ≤ 8) (hm : ∀ q ∈ m, q.1.length = 16 ∧ q.2.length ≤ 1000) (hcs : ∀ q ∈ cs, q.1.length = 16 ∧ q.2.length ≤ 1000 ∧ bandTo q.1 d = bn) :
    Calls Tryz.prog 15 #[.agg #[.int .i64 (bn : Int), .int .i64 (d : Int), .string ⟨(nowAt m l bn d 0).toArray⟩, .string ⟨(nowAt m l bn d n).toArray⟩, .slice sa n sc]] w fun e w' => e = .returned (.int .i64 0) ∧ Below w.heap.size w w' := by
  obtain ⟨R, ho⟩ := ho
  -- what stands at each step
  have hstep : Hid (∀ j (hj : j < n), ∃ g, sa = some ⟨g, 0, none⟩ ∧ g < w.heap.size ∧ ∃ s : Stp,
      (w.cell? ⟨g, j * 6, none⟩ = some (.string ⟨s.k.toArray⟩) ∧ w.cell? ⟨g, j * 6 + 1, none⟩ = some (.string ⟨s.v.toArray⟩) ∧ w.cell? ⟨g, j * 6 + 2, none⟩ = some (.slice s.a s.pf.beside.length s.c) ∧ w.cell? ⟨g, j * 6 + 3, none⟩ = some (.bool s.pf.there) ∧ w.cell? ⟨g, j * 6 + 4, none⟩ = some (.string ⟨s.pf.key.toArray⟩) ∧ w.cell? ⟨g, j * 6 + 5, none⟩ = some (.string ⟨s.pf.val.toArray⟩)) ∧
      Keyrow w s.a s.c s.pf.beside ∧ (cs.map (·.1)).take (j + 1) = (cs.map (·.1)).take j ++ [s.k] ∧
      IsGood s.pf s.k d ∧ s.pf.val.length ≤ 1000 ∧ s.v.length ≤ 1000 ∧ s.k.length = 16 ∧ hs.climb s.k s.pf.beside d (hs.foot s.pf) = nowAt m l bn d j ∧
      ∀ mm, (s.pf.there = true → alikeTo s.k s.pf.key mm = true) → (s.pf.there = true → s.pf.key ≠ s.k → mm < 128 ∧ bitAt s.k mm ≠ bitAt s.pf.key mm) → afterOf s.pf s.k s.v d mm = nowAt m l bn d (j + 1)) := Lib.hid (by
    intro j hj
    have hjl : j < l.length := by omega
    obtain ⟨g, e, hg, hcel⟩ := step_cells ho hn j hjl
    obtain ⟨f1, f2, f3, f4, f5, f6, f7⟩ := step_facts m l cs bn d j (by omega) hbn hl hc hm hcs hjl
    refine ⟨g, e, hg, l[j], six_of_cells hcel, hrows _ (List.getElem_mem hjl), ?_, f1, f2, f3, f4, f6, f7⟩
    rw [← hl, List.map_map, List.take_succ_eq_append_getElem (by simpa using hjl)]
    simp)
  have HK := Lib.hid hK
  generalize nowAt m l bn d = now at hstep ⊢
  obtain ⟨W0, hW0⟩ : ∃ W0, W0 = w.alloc (.cells #[.int .i64 (bn : Int), .int .i64 (d : Int), .string ⟨(now 0).toArray⟩, .string ⟨(now n).toArray⟩, .slice sa n sc] 41) := ⟨_, rfl⟩
  have hB0 : Below w.heap.size w W0 := by rw [hW0]; exact (Below.refl _ _).alloc (Nat.le_refl _) _
  have hw0 : W0.heap.size = w.heap.size + 1 := by rw [hW0]; simp
  have hrow0 : W0.heap[w.heap.size]? = some (.cells #[.int .i64 (bn : Int), .int .i64 (d : Int), .string ⟨(now 0).toArray⟩, .string ⟨(now n).toArray⟩, .slice sa n sc] 41 (0, 0)) := by rw [hW0]; exact heap_alloc_new _ _
  have HC := Lib.hid (fun (W : World) (hb : Below W0.heap.size W0 W) => five_of_cells ((hb.block _ (by omega)).trans hrow0))
  obtain ⟨z0, z1, z2, z3, z4⟩ := HC.out W0 (Below.refl _ _)
  have hkl_ : (cs.map (·.1)).length = n := by rw [List.length_map, ← hl, List.length_map]; exact hn
  clear hK ho hrows hc hl hrow0
  go_enter Tryz.func15, Tryz.ntmps15
  go_wp2_with fail
  rw [← hW0]
  clear hW0
  go_loopw [3, 15] (fun v i W => ∃ k : Nat, k ≤ n ∧ i = .int .i64 k ∧ W.ownsRow W0.heap.size 9 1 v k (((cs.map (·.1)).take k).map encStr) ∧ Below W0.heap.size W0 W) (fun _ i _ => n - (intOf i).toNat)
  case atStart => exact ⟨0, Nat.zero_le _, rfl, World.ownsRow_nil _ _ _ _, Below.refl _ _⟩
  case round =>
    obtain ⟨k, hk, rfl, hown, hb⟩ := hrel
    have sz := hb.size
    have Hown := Lib.hid hown
    obtain ⟨av, cv, rfl⟩ := own_slice hown
    clear hown
    have hBw := hB0.trans (hb.mono hB0.size)
    by_cases hkl : k < n
    · obtain ⟨g, rfl, hg, s, ⟨h0, h1, h2, h3, h4, h5⟩, _, htk, _⟩ := hstep.out k hkl
      have h0 := (hBw.cell (p := ⟨g, k * 6, none⟩) hg).trans h0
      have h1 := (hBw.cell (p := ⟨g, k * 6 + 1, none⟩) hg).trans h1
      have h2 := (hBw.cell (p := ⟨g, k * 6 + 2, none⟩) hg).trans h2
      have h3 := (hBw.cell (p := ⟨g, k * 6 + 3, none⟩) hg).trans h3
      have h4 := (hBw.cell (p := ⟨g, k * 6 + 4, none⟩) hg).trans h4
      have h5 := (hBw.cell (p := ⟨g, k * 6 + 5, none⟩) hg).trans h5
      have Htk := Lib.hid htk
      generalize s.pf.beside.length = bl at h2
      generalize s.pf.there = th at h3
      generalize s.pf.key = pk at h4
      generalize s.pf.val = pv at h5
      clear htk
      go_wp2_with (at_builtin; refine Hid.out ?_)
      unfold Hid
      obtain ⟨wa, hwa⟩ : ∃ wa, wa = wr.alloc (.cells #[.string ⟨s.k.toArray⟩, .string ⟨s.v.toArray⟩, .slice s.a bl s.c, .bool th, .string ⟨pk.toArray⟩, .string ⟨pv.toArray⟩] 121) := ⟨_, rfl⟩
      have hBa : Below wr.heap.size wr wa := by rw [hwa]; exact (Below.refl _ _).alloc (Nat.le_refl _) _
      have hba := hb.trans (hBa.mono sz)
      have hsa : wa.heap.size = wr.heap.size + 1 := by rw [hwa]; simp
      rw [← hwa]
      have hown3 : wa.ownsRow W0.heap.size 9 1 (.slice av k cv) k (((cs.map (·.1)).take k).map encStr) := (Touch.of_below hBa (fun _ => False)).own Hown.out (fun _ _ h => h)
      refine wpList_app1 rfl rfl Tryz.underlying31 Tryz.infoStr rfl hown3 rfl (by rw [hsa]; rfl) rfl (by omega) (by unfold maxLen; omega) hba.size ?_
      intro v4 w4 ho4 hg4
      have hb4 : Below W0.heap.size W0 w4 := hba.grown hg4 hba.size (fun j hj => (hown3.lt j hj).1)
      have ho4 : w4.ownsRow W0.heap.size 9 1 v4 (k + 1) (((cs.map (·.1)).take (k + 1)).map encStr) := by
        rw [Htk.out, encStr_append]; exact ho4
      obtain ⟨a4, c4, rfl⟩ := own_slice ho4
      have Ho4 := Lib.hid ho4
      clear hown3 hg4 h0 h1 h2 h3 h4 h5 hwa hba hBa ho4
      go_wp2
      go_roundw
      case rel => exact ⟨k + 1, by omega, by go_num, Ho4.out, hb4⟩
      case measure => simp [intOf]; omega
    · obtain rfl : k = n := by omega
      have eks : (cs.map (·.1)).take k = cs.map (·.1) := by rw [← hkl_, List.take_length]
      have hown1 := Hown.out
      rw [eks] at hown1
      obtain ⟨hkr, _⟩ := keyrow_of_own (ks := cs.map (·.1)) hown1 (by omega) hkl_.symm
      have hmay := Lib.hid (may_any bn d av cv k (cs.map (·.1)) wr hkl_ hkr hd hbn (by omega) (fun x hx => by
        obtain ⟨q, hq, rfl⟩ := List.mem_map.1 hx
        exact (hcs q hq).1) (fun x hx => by
        obtain ⟨q, hq, rfl⟩ := List.mem_map.1 hx
        exact (hcs q hq).2.2))
      obtain ⟨y0, y1, y2, y3, y4⟩ := HC.out wr hb
      clear Hown hown1 hkr z0 z1 z2 z3 z4
      go_wp2_with fail
      refine hmay.out.mono ?_
      rintro e w' ⟨rfl, rfl⟩
      clear hmay
      go_wp2_with fail
      go_loopw [7, 40] (fun v i W => ∃ j : Nat, j ≤ k ∧ i = .int .i64 j ∧ v = .string ⟨(now j).toArray⟩ ∧ Below w'.heap.size w' W) (fun _ i _ => k - (intOf i).toNat)
      case atStart => exact ⟨0, Nat.zero_le _, rfl, rfl, Below.refl _ _⟩
      case round =>
        obtain ⟨j, hjk, rfl, rfl, hb2⟩ := hrel
        have hb02 := hb.trans (hb2.mono sz)
        have hBw2 := hB0.trans (hb02.mono hB0.size)
        have szr := hBw2.size
        obtain ⟨q0, q1, q2, q3, q4⟩ := HC.out wr hb02
        by_cases hjl : j < k
        · obtain ⟨g, rfl, hg, s, ⟨h0, h1, h2, h3, h4, h5⟩, hrw, _, hgood, hpv, hvl, hk16, hclimb, hafter⟩ := hstep.out j hjl
          have h0 := (hBw2.cell (p := ⟨g, j * 6, none⟩) hg).trans h0
          have h1 := (hBw2.cell (p := ⟨g, j * 6 + 1, none⟩) hg).trans h1
          have h2 := (hBw2.cell (p := ⟨g, j * 6 + 2, none⟩) hg).trans h2
          have h3 := (hBw2.cell (p := ⟨g, j * 6 + 3, none⟩) hg).trans h3
          have h4 := (hBw2.cell (p := ⟨g, j * 6 + 4, none⟩) hg).trans h4
          have h5 := (hBw2.cell (p := ⟨g, j * 6 + 5, none⟩) hg).trans h5
          obtain ⟨kk, vv, pa, pc, ⟨pb, pth, pk, pv⟩, pn⟩ := s
          dsimp only at *
          have HG := Lib.hid (fun (W : World) (hb : Below w.heap.size w W) => pgood_any (.agg #[.slice pa pb.length pc, .bool pth, .string ⟨pk.toArray⟩, .string ⟨pv.toArray⟩]) ⟨pb, pth, pk, pv⟩ kk d W ⟨pa, pc, rfl, hrw.old hb⟩ hgood)
          have HN := Lib.hid (fun (W : World) (hb : Below w.heap.size w W) => pnd_any (.agg #[.slice pa pb.length pc, .bool pth, .string ⟨pk.toArray⟩, .string ⟨pv.toArray⟩]) ⟨pb, pth, pk, pv⟩ kk d W ⟨pa, pc, rfl, hrw.old hb⟩ hgood hpv (HK.out.old hb))
          have HA : Hid (∀ (W : World), Below w.heap.size w W → Calls Tryz.prog 50 #[.agg #[.slice pa pb.length pc, .bool pth, .string ⟨pk.toArray⟩, .string ⟨pv.toArray⟩], .string ⟨kk.toArray⟩, .string ⟨vv.toArray⟩, .int .i64 (d : Int)] W fun e w' => e = .returned (.tuple #[.string ⟨(now (j + 1)).toArray⟩, .int .i64 0]) ∧ Below W.heap.size W w') := Lib.hid (fun (W : World) (hb : Below w.heap.size w W) => by
            refine (pafter_any (.agg #[.slice pa pb.length pc, .bool pth, .string ⟨pk.toArray⟩, .string ⟨pv.toArray⟩]) ⟨pb, pth, pk, pv⟩ kk vv d W ⟨pa, pc, rfl, hrw.old hb⟩ hgood hpv hvl (HK.out.old hb)).mono ?_
            rintro e w' ⟨mm, c1, c2, rfl, hB⟩
            rw [hafter mm c1 c2]
            exact ⟨rfl, hB⟩)
          dsimp only at HN
          rw [hclimb] at HN
          obtain ⟨wa, hwa⟩ : ∃ wa, wa = wr.alloc (.cells #[.string ⟨kk.toArray⟩, .string ⟨vv.toArray⟩, .slice pa pb.length pc, .bool pth, .string ⟨pk.toArray⟩, .string ⟨pv.toArray⟩] 121) := ⟨_, rfl⟩
          have hBa : Below wr.heap.size wr wa := by rw [hwa]; exact (Below.refl _ _).alloc (Nat.le_refl _) _
          have ca : wa.heap[wr.heap.size]? = some (.cells #[.string ⟨kk.toArray⟩, .string ⟨vv.toArray⟩, .slice pa pb.length pc, .bool pth, .string ⟨pk.toArray⟩, .string ⟨pv.toArray⟩] 121 (0, 0)) := by rw [hwa]; exact heap_alloc_new _ _
          have hla : wr.heap.size < wa.heap.size := by rw [hwa]; simp
          have H9 := Lib.hid (fun (W : World) (hb : Below wa.heap.size wa W) => (by
            have h := (hb.block _ hla).trans ca
            exact ⟨by rw [cell_of_row _ _ 0 _ _ _ h]; rfl, by rw [cell_of_row _ _ 1 _ _ _ h]; rfl, by rw [cell_of_row _ _ 2 _ _ _ h]; rfl, by rw [cell_of_row _ _ 3 _ _ _ h]; rfl, by rw [cell_of_row _ _ 4 _ _ _ h]; rfl, by rw [cell_of_row _ _ 5 _ _ _ h]; rfl⟩ :
            W.cell? ⟨wr.heap.size, 0, none⟩ = some (.string ⟨kk.toArray⟩) ∧ W.cell? ⟨wr.heap.size, 1, none⟩ = some (.string ⟨vv.toArray⟩) ∧ W.cell? ⟨wr.heap.size, 2, none⟩ = some (.slice pa pb.length pc) ∧ W.cell? ⟨wr.heap.size, 3, none⟩ = some (.bool pth) ∧ W.cell? ⟨wr.heap.size, 4, none⟩ = some (.string ⟨pk.toArray⟩) ∧ W.cell? ⟨wr.heap.size, 5, none⟩ = some (.string ⟨pv.toArray⟩)))
          have hBwa := hBw2.trans (hBa.mono szr)
          have hb0a := hb02.trans (hBa.mono hb02.size)
          have qa : ∀ o, (wr.alloc o).cell? ⟨w.heap.size, 1, none⟩ = some (.int .i64 (d : Int)) := fun o => (((Below.refl wr.heap.size wr).alloc (Nat.le_refl _) o).cell (p := ⟨w.heap.size, 1, none⟩) (World.block_lt_of_cell? wr _ q1)).trans q1
          clear hafter hclimb hgood hpv hvl hk16 hrw ca hla hstep
          generalize pb.length = bl at h2 HG HN HA hwa H9
          go_wp2_with fail
          rw [← hwa]
          refine (HG.out wa hBwa).mono ?_
          rintro e5 w5 ⟨rfl, hB5⟩
          obtain ⟨a0, a1, a2, a3, a4, a5⟩ := H9.out w5 hB5
          have hBw5 := hBwa.trans (hB5.mono hBwa.size)
          have hb05 := hb0a.trans (hB5.mono hb0a.size)
          obtain ⟨t0, t1, t2, t3, t4⟩ := HC.out w5 hb05
          have hn5 := HN.out w5 hBw5
          clear HG HN hwa qa h0 h1 h2 h3 h4 h5 q0 q1 q2 q3 q4
          go_wp2_with fail
          refine hn5.mono ?_
          rintro e6 w6 ⟨rfl, hB6⟩
          have hB56 := hB5.trans (hB6.mono hB5.size)
          obtain ⟨b0, b1, b2, b3, b4, b5⟩ := H9.out w6 hB56
          have hBw6 := hBw5.trans (hB6.mono hBw5.size)
          have hb06 := hb05.trans (hB6.mono hb05.size)
          obtain ⟨u0, u1, u2, u3, u4⟩ := HC.out w6 hb06
          have ha6 := HA.out w6 hBw6
          clear HA hn5 a0 a1 a2 a3 a4 a5 t0 t1 t2 t3 t4 H9
          generalize hnj : now (j + 1) = nj at ha6
          have Hnj := Lib.hid hnj
          clear hnj
          go_wp2_with fail
          refine ha6.mono ?_
          rintro e7 w7 ⟨rfl, hB7⟩
          have hfin : Hid (Below w'.heap.size w' w7) := Lib.hid (by
            have h1 : Below w'.heap.size w' w6 := by
              have hbwa : Below w'.heap.size w' wa := hb2.trans (hBa.mono hb2.size)
              exact hbwa.trans (hB56.mono hbwa.size)
            exact h1.trans (hB7.mono h1.size))
          clear ha6 b0 b1 b2 b3 b4 b5 u0 u1 u2 u3 u4
          go_wp2
          go_roundw
          case rel => exact ⟨j + 1, by omega, by go_num, by rw [Hnj.out], hfin.out⟩
          case measure => simp [intOf]; omega
        · obtain rfl : j = k := by omega
          go_wp2
          go_ret
          exact ⟨rfl, hBw2⟩

end Go.Proofs.YtcgkomafaepjnaaGreatDoor
namespace Go.Proofs.YtcgkomafaepjnaaGreatDoor
open Go.RowKit Go.Shelf

attribute [local go_sem] Oper.semAt_some

set_option maxHeartbeats 1000000 in
theorem chunk_fn (a : Option Addr) (len cap : Nat) (w : World) :
    Calls Tryz.prog 51 #[.slice a len cap, .int .i64 2] w fun e w' => e = .returned (.func (.func 97) #[] #[.pointer (some ⟨w.heap.size, 0, none⟩), .pointer (some ⟨w.heap.size + 1, 0, none⟩)]) ∧ w' = (w.alloc (.cells #[.slice a len cap] 31)).alloc (.cells #[.int .i64 2] 3) := by
  go_enter Tryz.func51, Tryz.ntmps51
  go_wp2
  go_ret
  exact ⟨rfl, rfl⟩

theorem chunks_stops (n : Nat) (hn : 1 ≤ n) (Bs Bn B5 n₀ g o c cap : Nat) (hc0 : 0 < c) (hc : c ≤ 8) (hcap : 2 * c ≤ cap) (hBsn : Bs < n₀) (hBs5 : Bs ≠ B5) (hBnn : Bn < n₀) (hBn5 : Bn ≠ B5) (w : World) (hn₀ : n₀ ≤ w.heap.size)
    (h1 : w.cell? ⟨Bs, 0, none⟩ = some (.slice (some ⟨g, o, none⟩) (2 * c) cap)) (h2 : w.cell? ⟨Bn, 0, none⟩ = some (.int .i64 2)) :
    SeqStopsK Fence.wide n Tryz.prog 97 #[.pointer (some ⟨Bs, 0, none⟩), .pointer (some ⟨Bn, 0, none⟩)] (encP g o) (KpT B5 n₀) (fun ys => ys = uptoI (finAt c hc0) c) (fun _ => True) c w := fun l J Jx W hW hJA _ hY h0 =>
  chunks1_in n hn l Bs Bn B5 n₀ g o c cap hc0 hc hcap hBsn hBs5 hBnn hBn5 J Jx _ hJA hY W ((hW.cell (p := ⟨Bs, 0, none⟩) (by show Bs < _; omega)).trans h1) ((hW.cell (p := ⟨Bn, 0, none⟩) (by show Bn < _; omega)).trans h2) h0

/-- The marks of loops done, taken one after the other. -/
theorem leaves_marks {fn : Func} {tmps : Array Value} {R : Ending → World → Prop} (n B : Nat) (w : World) (hB : B ≤ w.heap.size) (hfin : ∀ W, Below B w W → LeavesIn Fence.wide n Tryz.prog fn tmps R [] .returning W) :
    ∀ (Ds : List Nat) (W : World), Below B w W → Ds.Nodup → (∀ D ∈ Ds, B ≤ D ∧ W.heap[D]? = some (.deferred (some []))) →
      LeavesInM Fence.wide n Tryz.prog fn tmps R (Ds.map fun D => { target := .collected D, args := #[] }) .returning W
  | [], W, hW, _, _ => hfin W hW
  | D :: Ds, W, hW, hnd, hDs => by
    obtain ⟨h1, h2⟩ := hDs D (List.mem_cons_self ..)
    obtain ⟨n1, n2⟩ := List.nodup_cons.1 hnd
    refine ⟨by simp, .inl ⟨D, _, rfl, run_takeDeferred h2, ?_⟩⟩
    have hlt := (Array.getElem?_eq_some_iff.1 h2).1
    refine leaves_marks n B w hB hfin Ds _ (hW.trans ((Below.refl B W).grown (grownBy_putObj' W D _) (by omega) (fun k e => by cases e; omega))) n2 ?_
    · intro D' hD'
      obtain ⟨k1, k2⟩ := hDs D' (List.mem_cons_of_mem _ hD')
      have hne : D' ≠ D := by rintro rfl; exact n1 hD'
      exact ⟨k1, (World.putObj_heap_other hne).trans k2⟩

/-- A row that stands in a box: what turns no cells leaves it. -/
theorem row_from (B b R : Nat) {α : Type} (f : α → Tx) : OwnFrom B (fun (pre : List α) (W : World) => ∃ (v : Value), W.cell? ⟨b, 0, none⟩ = some v ∧ W.frozen? ⟨b, 0, none⟩ = false ∧ W.ownsRow R 9 1 v pre.length ((pre.map f).map encStr) ∧ R ≤ W.heap.size) := by
  rintro s A C row ⟨v, h1, h2, h3, h4⟩ hg hr
  have hr' : ∀ r, row = some r → ∃ o : Obj, A.heap[r]? = some o ∧ o.isCells = false := fun r e => (hr r e).2
  refine ⟨v, cell_kept h1 hg hr', (frozen_kept h1 hg hr').trans h2, (Touch.grown hg).own h3 ?_, Nat.le_trans h4 hg.size⟩
  intro k hk e
  obtain ⟨o, ho, hc⟩ := hr' k e.symm
  rcases h3.2 with ⟨rfl, _⟩ | ⟨g, cap, cur, rfl, _, hb, _⟩
  · cases hk
  · injection hk with hk
    subst hk
    rw [hb] at ho
    injection ho with ho
    subst ho
    cases hc

theorem uptoI_pairs (m : Puts) (e c : Nat) (hc : 0 < c) (hce : c = 2 ^ e) (he : e < 16) :
    ((uptoI (finAt c hc) c).map fun x => hs.jn ((hs.level m (e + 1)).getD (2 * x.val) []) ((hs.level m (e + 1)).getD (2 * x.val + 1) [])) = hs.level m e := by
  have hlen : (hs.level m (e + 1)).length = 2 * c := by rw [level_length, Nat.pow_succ, hce, Nat.mul_comm]
  have hl : hs.level m (e + 1) = (List.range (2 * c)).map fun j => (hs.level m (e + 1)).getD j [] := by
    refine List.ext_getElem (by simp [hlen]) fun i h1 h2 => ?_
    rw [List.getElem_map, List.getElem_range, List.getD_eq_getElem?_getD, List.getElem?_eq_getElem h1]; rfl
  rw [← level_up hs m e he]
  generalize hs.level m (e + 1) = L at hl ⊢
  conv => rhs; rw [hl]
  rw [pairs_range]
  unfold uptoI finAt
  rw [List.map_map]
  refine List.map_congr_left fun j hj => ?_
  have hj : j < c := List.mem_range.1 hj
  simp only [Function.comp_apply, Nat.mod_eq_of_lt hj]

/-- Within a round a region's operations do as outside it: none of them is a defer statement. -/
theorem operIn_round {n : Nat} {P : Program} {o : Oper} {a : Act} {w : World} {K : Act → World → Prop} {Q : Exit → Act → World → Prop} (l : Nat) (ho : ∀ c, o.op ≠ .defer c) (h : o.wpIn Fence.wide n P a w K Q) : o.wpIn (Fence.wide.inRound l) n P a w K Q := by
  unfold Oper.wpIn at *
  rw [Oper.semAt_plain _ _ _ ho] at *
  refine ⟨h.1, ?_⟩
  have h2 := h.2
  generalize (execOp a.eval o).run P w = r at *
  cases r with
  | ok x w' => cases x <;> exact h2
  | halt x w' => cases x <;> exact h2

theorem anyIn_round {n : Nat} {P : Program} {md : Region.Mode} {ops : Array Oper} {Q : Exit → Act → World → Prop} (l : Nat) (ho : ∀ o ∈ ops.toList, ∀ c, o.op ≠ .defer c) : ∀ (fuel : Nat) (listed : Array Bool) (a : Act) (w : World),
    wpAnyIn Fence.wide n P md ops Q fuel listed a w → wpAnyIn (Fence.wide.inRound l) n P md ops Q fuel listed a w
  | 0, _, _, _, h => h
  | fuel + 1, listed, a, w, h => by
    refine ⟨h.1, fun i hi => ?_⟩
    have h2 := h.2 i hi
    have h3 := wpOpIn_mono (fun a' w' => anyIn_round l ho fuel (listed.setIfInBounds i true) a' w') h2
    unfold wpOpIn at *
    cases hop : ops[i]? with
    | none => simp only [hop] at h3 ⊢; exact h3
    | some o =>
      have hmem : o ∈ ops.toList := by
        rw [← Array.getElem?_toList] at hop
        exact List.mem_of_getElem? hop
      simp only [hop] at h3 ⊢
      split
      · rename_i hw; rw [if_pos hw] at h3; exact operIn_round l (ho o hmem) h3
      · rename_i hw; rw [if_neg hw] at h3; exact h3

end Go.Proofs.YtcgkomafaepjnaaGreatDoor
namespace Go.Proofs.YtcgkomafaepjnaaGreatDoor
open Go.RowKit Go.Shelf

attribute [local go_sem] Oper.semAt_some
/-- An append that the walk doesn't lay open: its run stands among the hypotheses. -/
def appHid (ts : Array TypeId) (ty : TypeId) (xs : Array Value) : Sem Value := Builtin.append_ ts ty xs
theorem app_hid (ts : Array TypeId) (ty : TypeId) (xs : Array Value) : Builtin.append_ ts ty xs = appHid ts ty xs := rfl
attribute [local go_sem ↓] app_hid

def lenOfV : Value → Nat
  | .slice _ n _ => n
  | _ => 0

/-- The frame at the head of Root's loop. -/
def rootAct (av : Option Addr) (n cv d N : Nat) (a : Option Addr) (c : Nat) (u7 u19 u20 u21 u22 u23 u35 : Value) (Ds : List Nat) : Act :=
  { tmps := #[.slice av n cv, .int .i64 (d : Int), undef, undef, .string ⟨#[]⟩, .int .i64 0, .int .i64 (N : Int), u7, undef, .int .i64 (d : Int), .int .i64 (N : Int), .bool false, .int .i64 (N : Int), .bool false, .bool false, .int .i64 (N : Int), .slice a N c, .int .i64 (N : Int), .bool false, u19, u20, u21, u22, u23, undef, undef, undef, undef, undef, undef, undef, undef, undef, undef, undef, u35, undef, undef, undef],
    defers := Ds.map fun D => { target := .collected D, args := #[] } }

set_option maxRecDepth 100000 in
set_option maxHeartbeats 8000000 in
theorem broot_any (m : Puts) (d c : Nat) (a : Option Addr) (w : World) (hr : Keyrow w a c (hs.level m d)) (hK : Kon w) (hd : d ≤ 3) (hm16 : ∀ q ∈ m, q.1.length = 16) :
    Calls Tryz.prog 16 #[.slice a (2 ^ d) c, .int .i64 (d : Int)] w fun e w' => e = .returned (.tuple #[.string ⟨(hs.at (valOf m) (keysOf m) [] 0).toArray⟩, .int .i64 0]) ∧ Below w.heap.size w w' := by
  have hcnt := bcount_any d w hd
  have hp : 0 < 2 ^ d := Nat.two_pow_pos d
  generalize hN : 2 ^ d = N at hcnt hp ⊢
  have h0 : ((N : Int) == 0) = false := by simp; omega
  refine (callsIn_wide (n := 5)).1 ?_
  refine callsIn_of_wp_marks Tryz.func16 rfl trivial ?_ rfl
  simp only [Tryz.ntmps16, List.size_toArray, List.length_cons, List.length_nil, Nat.reduceAdd, Nat.reduceSub, Array.replicate_succ, Array.replicate_zero, List.push_toArray, List.append_toArray, List.nil_append, List.cons_append]
  gi_wp2_with fail
  refine ⟨trivial, ?_⟩
  refine (callsIn_wide.2 hcnt).mono ?_
  rintro e w' ⟨rfl, rfl⟩
  gi_wp2_with fail
  refine wpIn_loop (fun act W => ∃ (e : Nat) (av : Option Addr) (cv : Nat) (Ds : List Nat) (u7 u19 u20 u21 u22 u23 u35 : Value), e ≤ 3 ∧ act = rootAct av (2 ^ e) cv d N a c u7 u19 u20 u21 u22 u23 u35 Ds ∧ Keyrow W av cv (hs.level m e) ∧ Below w'.heap.size w' W ∧ Ds.Nodup ∧ ∀ D ∈ Ds, w'.heap.size ≤ D ∧ W.heap[D]? = some (.deferred (some [])))
    (fun act _ => lenOfV (act.tmps.getD 0 undef)) ?_ ?_
  · exact ⟨d, a, c, [], undef, undef, undef, undef, undef, undef, undef, hd, by rw [hN]; rfl, hr, Below.refl _ _, List.nodup_nil, by intro D hD; cases hD⟩
  · rintro act W ⟨e, av, cv, Ds, u7, u19, u20, u21, u22, u23, u35, he, rfl, hrow, hB, hnd, hDs⟩
    unfold rootAct
    by_cases he0 : e = 0
    · subst he0
      have h1 : ¬ ((1 : Int) < ((2 ^ 0 : Nat) : Int)) := by decide
      obtain ⟨g, o, rfl, hg, hc⟩ := hrow.cell 0 (by rw [level_length]; decide)
      rw [level_zero] at hc
      generalize hNN : hs.at (valOf m) (keysOf m) [] 0 = NN at hc
      have HNN := Lib.hid hNN
      clear hNN
      have hc : W.cell? ⟨g, o, none⟩ = some (.string ⟨NN.toArray⟩) := hc
      gi_wp2_with fail
      refine leaves_marks 5 w'.heap.size w' (Nat.le_refl _) ?_ Ds _ hB hnd hDs
      intro W2 hB2
      refine ⟨.tuple #[.string ⟨NN.toArray⟩, .int .i64 0], ?_, ?_, hB2⟩
      · simp [results, Tryz.f16, go_sem]
      · rw [HNN.out]
    · obtain ⟨e', rfl⟩ : ∃ e', e = e' + 1 := ⟨e - 1, by omega⟩
      obtain ⟨c', hc'⟩ : ∃ c', c' = 2 ^ e' := ⟨_, rfl⟩
      have h2c : 2 ^ (e' + 1) = 2 * c' := by rw [hc', Nat.pow_succ, Nat.mul_comm]
      have hcp : 0 < c' := by rw [hc']; exact Nat.two_pow_pos _
      have hc8 : c' ≤ 8 := by
        have : e' ≤ 2 := by omega
        have := Nat.pow_le_pow_right (n := 2) (by decide) this
        omega
      obtain ⟨g, o, rfl, hg, hc0⟩ := hrow.cell 0 (by rw [level_length]; exact Nat.two_pow_pos _)
      have hroom := hrow.room
      rw [level_length, h2c] at hroom
      have hall := Lib.hid hrow
      have hpairs := Lib.hid (uptoI_pairs m e' c' hcp hc' (by omega))
      have hD' := Lib.hid (And.intro hnd hDs)
      rw [h2c]
      have h1 : (1 : Int) < ((2 * c' : Nat) : Int) := by omega
      have HC' := Lib.hid hc'
      have H2c := Lib.hid h2c
      clear hc' h2c
      have hch := Lib.hid (chunk_fn (some ⟨g, o, none⟩) (2 * c') cv (W.alloc (.cells #[.slice none 0 0] 31)))
      clear hrow hc0 hnd hDs
      gi_wp2_with fail
      refine ⟨trivial, ?_⟩
      refine (callsIn_wide.2 hch.out).mono ?_
      clear hch
      rintro e1 W1 ⟨rfl, hW1⟩
      have hs7 : (W.alloc (.cells #[.slice none 0 0] 31)).heap.size = W.heap.size + 1 := by simp
      have hs1 : W1.heap.size = W.heap.size + 3 := by rw [hW1]; simp
      have hB1 : Below W.heap.size W W1 := by
        rw [hW1]
        exact ((((Below.refl _ W).alloc (Nat.le_refl _) _).alloc (by simp) _).alloc (by simp; omega) _)
      have r7 : W1.heap[W.heap.size]? = some (.cells #[.slice none 0 0] 31 (0, 0)) := by
        rw [hW1]; exact (Below.heap_alloc _ _ _ (by simp; omega)).trans ((Below.heap_alloc _ _ _ (by simp)).trans (heap_alloc_new _ _))
      have r8 : W1.heap[W.heap.size + 1]? = some (.cells #[.slice (some ⟨g, o, none⟩) (2 * c') cv] 31 (0, 0)) := by
        have := heap_alloc_new (W.alloc (.cells #[.slice none 0 0] 31)) (.cells #[.slice (some ⟨g, o, none⟩) (2 * c') cv] 31)
        rw [hs7] at this
        rw [hW1]; exact (Below.heap_alloc _ _ _ (by simp)).trans this
      have r9 : W1.heap[W.heap.size + 2]? = some (.cells #[.int .i64 2] 3 (0, 0)) := by
        have := heap_alloc_new ((W.alloc (.cells #[.slice none 0 0] 31)).alloc (.cells #[.slice (some ⟨g, o, none⟩) (2 * c') cv] 31)) (.cells #[.int .i64 2] 3)
        rw [World.size_alloc, hs7] at this
        rw [hW1]; exact this
      rw [hs7]
      clear hW1
      have hallW1 := Lib.hid (hall.out.old hB1)
      have hKW := hK.old hB
      gi_wp2_with fail
      generalize hf : (fun x : Fin c' => hs.jn ((hs.level m (e' + 1)).getD (2 * x.val) []) ((hs.level m (e' + 1)).getD (2 * x.val + 1) [])) = f at hpairs
      have Hf := Lib.hid hf
      clear hf
      refine wpIn_rangeFunc_ownF rfl (by decide) (gf := 97) (lb := #[.pointer (some ⟨W.heap.size + 1, 0, none⟩), .pointer (some ⟨W.heap.size + 1 + 1, 0, none⟩)]) rfl trivial (enters_of Tryz.func97 (by kernel_rfl) rfl)
        (chunks_stops 4 (by decide) (W.heap.size + 1) (W.heap.size + 1 + 1) W.heap.size (W.heap.size + 3) g o c' cv hcp hc8 hroom (by omega) (by omega) (by omega) (by omega) W1 (by omega) (cell_of_row _ _ 0 _ _ _ r8) (cell_of_row _ _ 0 _ _ _ r9)) kpT_t (kpT_b (by omega)) (Below.refl _ _) (fun _ => rfl)
        (fun pre V => (∃ v : Value, V.cell? ⟨W.heap.size, 0, none⟩ = some v ∧ V.frozen? ⟨W.heap.size, 0, none⟩ = false ∧ V.ownsRow (W.heap.size + 3) 9 1 v pre.length ((pre.map f).map encStr) ∧ W.heap.size + 3 ≤ V.heap.size) ∧ Below W.heap.size W V)
        (fun _ _ _ => False)
        (OwnFrom.and (row_from _ _ _ f) (ownFrom_below (Nat.le_refl _) (by omega)))
        (fun _ _ _ _ _ hs _ _ => hs)
        ⟨⟨_, cell_of_row _ _ 0 _ _ _ r7, frozen_of_row _ _ 0 _ _ r7, World.ownsRow_nil _ _ _ _, by omega⟩, hB1⟩
        (fun x => { tmps := #[.slice (some ⟨g, o, none⟩) (2 * c') cv, .int .i64 (d : Int), undef, undef, .string ⟨#[]⟩, .int .i64 0, .int .i64 (N : Int), .pointer (some ⟨W.heap.size, 0, none⟩), .slice (some ⟨g, o + 2 * x.val, none⟩) 2 2, .int .i64 (d : Int), .int .i64 (N : Int), .bool false, .int .i64 (N : Int), .bool false, .bool false, .int .i64 (N : Int), .slice a N c, .int .i64 (N : Int), .bool false, .slice (some ⟨g, o, none⟩) (2 * c') cv, .int .i64 (2 * (c' : Int)), .bool true, .slice (some ⟨g, o, none⟩) (2 * c') cv, .func (.func 97) #[] #[.pointer (some ⟨W.heap.size + 1, 0, none⟩), .pointer (some ⟨W.heap.size + 1 + 1, 0, none⟩)], .slice (some ⟨g, o + 2 * x.val, none⟩) 2 2, undef, undef, undef, undef, undef, undef, undef, undef, undef, undef, u35, undef, undef, undef], defers := [] }) ?assign ?body ?done ?stop
      case assign =>
        intro l x V K hKK
        unfold encP
        gi_wp2
        exact hKK
      case stop => rintro D cc pre V _ _ h; exact h.elim
      case done =>
        rintro D ys V hD rfl ⟨⟨v, hc7, hf7, ho7, hsz7⟩, hBV⟩ hKD
        rw [hpairs.out, uptoI_length] at ho7
        have eg7 := HC'.out
        rw [eg7] at ho7
        obtain ⟨a7, k7, rfl⟩ := own_slice ho7
        obtain ⟨hk7, _⟩ := keyrow_of_own ho7 (by rw [level_length]; have := Nat.pow_le_pow_right (n := 2) (by decide) (show e' ≤ 3 by omega); omega) (by rw [level_length])
        have hDs' := hD'.out
        gi_wp2_with fail
        have hdl := (Array.getElem?_eq_some_iff.1 hKD).1
        have sB := hB.size
        refine ⟨⟨e', a7, k7, D :: Ds, .pointer (some ⟨W.heap.size, 0, none⟩), _, _, _, _, _, _, by omega, rfl, hk7, hB.trans (hBV.mono sB), List.nodup_cons.2 ⟨?_, hDs'.1⟩, ?_⟩, ?_⟩
        · intro hmem
          have := (Array.getElem?_eq_some_iff.1 (hDs'.2 D hmem).2).1
          omega
        · intro D' hD''
          rcases List.mem_cons.1 hD'' with rfl | hm
          · exact ⟨by omega, hKD⟩
          · exact ⟨(hDs'.2 D' hm).1, (hBV.block D' (Array.getElem?_eq_some_iff.1 (hDs'.2 D' hm).2).1).trans (hDs'.2 D' hm).2⟩
        · show 2 ^ e' < 2 * c'
          rw [← eg7]; omega
      case body =>
        rintro l pre x V ⟨⟨v, hc7, hf7, ho7, hsz7⟩, hBV⟩ hlt
        have hsn : (pre ++ [x]).map f = pre.map f ++ [f x] := by rw [List.map_append]; rfl
        have hln : (pre ++ [x]).length = pre.length + 1 := by simp
        generalize hpl : pre.length = k at *
        have hx := x.isLt
        obtain ⟨g0, o0, e0, _, hX⟩ := hall.out.cell (2 * x.val) (by rw [level_length, H2c.out]; omega)
        obtain ⟨g1, o1, e1, _, hY⟩ := hall.out.cell (2 * x.val + 1) (by rw [level_length, H2c.out]; omega)
        injection e0 with e0
        injection e0 with e0 e0'
        injection e1 with e1
        injection e1 with e1 e1'
        subst e0 e0' e1 e1'
        have hfx : f x = hs.jn ((hs.level m (e' + 1)).getD (2 * x.val) []) ((hs.level m (e' + 1)).getD (2 * x.val + 1) []) := by rw [← Hf.out]
        have hXl : ((hs.level m (e' + 1)).getD (2 * x.val) []).length ≤ 17 := by
          rw [level_at hs m (e' + 1) _ (by rw [H2c.out]; omega)]
          exact nd_le _ _ _ (by omega) (by rw [show 128 - (128 - (e' + 1)) = e' + 1 from by omega]; exact under_row (keys_keysOf hm16) _ _)
        have hYl : ((hs.level m (e' + 1)).getD (2 * x.val + 1) []).length ≤ 17 := by
          rw [level_at hs m (e' + 1) _ (by rw [H2c.out]; omega)]
          exact nd_le _ _ _ (by omega) (by rw [show 128 - (128 - (e' + 1)) = e' + 1 from by omega]; exact under_row (keys_keysOf hm16) _ _)
        generalize (hs.level m (e' + 1)).getD (2 * x.val) [] = X at hX hXl hfx
        generalize (hs.level m (e' + 1)).getD (2 * x.val + 1) [] = Y at hY hYl hfx
        have hXd : V.drew.cell? ⟨g, o + 2 * x.val, none⟩ = some (.string ⟨X.toArray⟩) := (hBV.cell (p := ⟨g, o + 2 * x.val, none⟩) hg).trans hX
        have hYd : V.drew.cell? ⟨g, o + 2 * x.val + 1, none⟩ = some (.string ⟨Y.toArray⟩) := (hBV.cell (p := ⟨g, o + 2 * x.val + 1, none⟩) hg).trans hY
        have hKV : Kon V.drew := (hKW.old hBV).old ((Below.refl _ _).drew)
        have hj := Lib.hid (join_any X Y V.drew (by omega) (by omega) hKV)
        rw [hfx] at hsn
        generalize hs.jn X Y = J at hj hsn
        obtain ⟨av, cv7, rfl⟩ := own_slice ho7
        have hs7V : W.heap.size < V.heap.size := World.block_lt_of_cell? V _ hc7
        have hc7d : V.drew.cell? ⟨W.heap.size, 0, none⟩ = some (.slice av k cv7) := hc7
        obtain ⟨i0, hinf, hz0, hz1, hz2⟩ := info_parts Tryz.infoStr
        have hrunA : Hid (∀ w5, Below V.drew.heap.size V.drew w5 → ∃ gg cap2 w7, (appHid #[31, 31] 31 #[.slice av k cv7, .slice (some ⟨w5.heap.size, 0, none⟩) 1 1]).run Tryz.prog (w5.alloc (.cells #[.string ⟨J.toArray⟩] 9)) = .ok (.slice (some ⟨gg, 0, none⟩) (k + 1) cap2) w7 ∧
            (∀ o', (w5.alloc o').cell? ⟨W.heap.size, 0, none⟩ = some (.slice av k cv7)) ∧ (∃ u, w7.cell? ⟨W.heap.size, 0, none⟩ = some u) ∧ w7.frozen? ⟨W.heap.size, 0, none⟩ = false ∧
            KeepsOthers V (w7.setCell ⟨W.heap.size, 0, none⟩ (.slice (some ⟨gg, 0, none⟩) (k + 1) cap2)) ∧ KpT W.heap.size (W.heap.size + 3) V (w7.setCell ⟨W.heap.size, 0, none⟩ (.slice (some ⟨gg, 0, none⟩) (k + 1) cap2)) ∧
            (∃ v : Value, (w7.setCell ⟨W.heap.size, 0, none⟩ (.slice (some ⟨gg, 0, none⟩) (k + 1) cap2)).cell? ⟨W.heap.size, 0, none⟩ = some v ∧ (w7.setCell ⟨W.heap.size, 0, none⟩ (.slice (some ⟨gg, 0, none⟩) (k + 1) cap2)).frozen? ⟨W.heap.size, 0, none⟩ = false ∧ (w7.setCell ⟨W.heap.size, 0, none⟩ (.slice (some ⟨gg, 0, none⟩) (k + 1) cap2)).ownsRow (W.heap.size + 3) 9 1 v (pre ++ [x]).length (((pre ++ [x]).map f).map encStr) ∧ W.heap.size + 3 ≤ (w7.setCell ⟨W.heap.size, 0, none⟩ (.slice (some ⟨gg, 0, none⟩) (k + 1) cap2)).heap.size) ∧ Below W.heap.size W (w7.setCell ⟨W.heap.size, 0, none⟩ (.slice (some ⟨gg, 0, none⟩) (k + 1) cap2))) := Lib.hid (by
          intro w5 hB5
          have hV5 : Below V.heap.size V w5 := below_call0 hB5
          have s5 := hV5.size
          have sV := hBV.size
          have hown5 : (w5.alloc (.cells #[.string ⟨J.toArray⟩] 9)).ownsRow (W.heap.size + 3) 9 1 (.slice av k cv7) k ((pre.map f).map encStr) := ((Touch.of_below hV5 (fun _ => False)).own ho7 (fun _ _ h => h)).alloc _
          have hlo : ∀ i, (Value.slice av k cv7).ownBlock = some i → W.heap.size + 3 ≤ i := fun i hi => (ho7.lt i hi).1
          obtain ⟨gg, cap2, w7, hrun, ho, hg7, hat, hlt7⟩ := run_append_lies (P := Tryz.prog) (w := w5.alloc (.cells #[.string ⟨J.toArray⟩] 9)) 31 31 (W.heap.size + 3) 9 i0 _ 1 16 Tryz.underlying31 hinf hz0 hz1 hz2 rfl (by decide) (.slice av k cv7) k ((pre.map f).map encStr) hown5 ⟨w5.heap.size, 0, none⟩ 1 1 [.string ⟨J.toArray⟩] rfl (World.news_of_block (cs := #[.string ⟨J.toArray⟩]) (t := 9) (fr := (0, 0)) (heap_alloc_new w5 _)) (by simp [Value.oneCell']) (by decide) (by unfold maxLen; omega) (by omega) (by simp; omega) (w5.heap.size + 1) (by simp)
          have TV : Touch (fun i => i = W.heap.size ∨ W.heap.size + 3 ≤ i) V w7 := ((Touch.of_below hV5 _).trans (Touch.alloc w5 _)).trans ((Touch.grown hg7).mono (fun i hi => .inl (.inr (hlo i hi.symm))))
          have TV' : Touch (fun i => (Value.slice av k cv7).ownBlock = some i) V w7 := ((Touch.of_below hV5 _).trans (Touch.alloc w5 _)).trans ((Touch.grown hg7).mono (fun i hi => .inl hi.symm))
          have hne7 : ¬ ((Value.slice av k cv7).ownBlock = some W.heap.size) := fun e => by have := hlo _ e; omega
          have hb7 := TV'.block W.heap.size hs7V hne7
          have hc7' : w7.cell? ⟨W.heap.size, 0, none⟩ = some (.slice av k cv7) := (World.cell?_of_block (w := V) (w' := w7) (a := ⟨W.heap.size, 0, none⟩) hb7).trans hc7
          have hf7' : w7.frozen? ⟨W.heap.size, 0, none⟩ = false := (World.frozen?_of_block (a := ⟨W.heap.size, 0, none⟩) hb7).trans hf7
          have hgg := (ho.lt gg rfl).1
          have KO : KeepsOthers V w7 := ((KeepsOthers.trans ⟨hV5.size, fun k o hk _ => (hV5.block k (Array.getElem?_eq_some_iff.1 hk).1).trans hk⟩ (KeepsOthers.alloc w5 _))).trans (KeepsOthers.of_grownBy hg7 (fun j o e hj => by
            rcases hown5.2 with ⟨e0, _⟩ | ⟨g9, cap9, cur9, e0, _, hb9, _⟩
            · rw [e0] at e; cases e
            · rw [e0] at e
              injection e with e
              subst e
              rw [hb9] at hj
              injection hj with hj
              subst hj
              rfl))
          refine ⟨gg, cap2, w7, hrun, ?_, ⟨_, hc7'⟩, hf7', KO.trans (KeepsOthers.setCell _ _ _), TV.trans (Touch.setCell (S := fun i => i = W.heap.size ∨ W.heap.size + 3 ≤ i) w7 ⟨W.heap.size, 0, none⟩ _ (.inl rfl)), ⟨_, World.cell?_setCell_same' _ _ _ (by rw [hc7']; rfl), ?_, ?_, ?_⟩, ?_⟩
          · intro o'
            exact (((Below.refl w5.heap.size w5).alloc (Nat.le_refl _) o').cell (p := ⟨W.heap.size, 0, none⟩) (by show W.heap.size < _; omega)).trans ((hV5.cell (p := ⟨W.heap.size, 0, none⟩) hs7V).trans hc7)
          · rw [World.frozen?_setCell]; exact hf7'
          · rw [hln, hsn, encStr_append]
            exact (Touch.setCell (S := (· = W.heap.size)) w7 ⟨W.heap.size, 0, none⟩ _ rfl).own ho (fun i hi e => by have h9 := (ho.lt i hi).1; have e9 : i = W.heap.size := e; omega)
          · have := TV.size
            simp only [World.size_setCell]
            omega
          · exact (hBV.trans (TV.below (B := W.heap.size) (by rintro i (rfl | h) <;> omega) sV)).setCell (p := ⟨W.heap.size, 0, none⟩) (by show W.heap.size ≤ W.heap.size; omega) _)
        have hj0 : (0 : Int) < 2 := by decide
        clear hall hpairs hD' Hf hc7 hX hY hBV ho7 hfx hXl hYl
        have hmx : Tryz.prog.follows .mixedOrders = true := by kernel_rfl
        gi_wp2_with fail
        refine wpIn_region_any hmx ?_
        change wpAnyIn _ _ _ _ _ _ _ _ _ (World.drew _)
        refine anyIn_round l (by simp) _ _ _ _ ?_
        refine wpAnyIn_take (i := 1) (v := .slice (some ⟨g, o + 2 * x.val, none⟩) 2 2) rfl rfl (by kernel_rfl) (by kernel_rfl) (by kernel_rfl) (fun _ _ _ h => h) ⟨Or.inl ⟨by rfl, ?_⟩, fun _ => rfl⟩ ?_
        · intro w; go_simp
        refine wpAnyIn_take (i := 2) (v := .pointer (some ⟨g, o + 2 * x.val, none⟩)) rfl rfl (by kernel_rfl) (by kernel_rfl) (by kernel_rfl) (fun _ _ _ h => h) ⟨Or.inl ⟨by rfl, ?_⟩, fun _ => rfl⟩ ?_
        · intro w; go_simp
        refine wpAnyIn_take (i := 4) (v := .slice (some ⟨g, o + 2 * x.val, none⟩) 2 2) rfl rfl (by kernel_rfl) (by kernel_rfl) (by kernel_rfl) (fun _ _ _ h => h) ⟨Or.inl ⟨by rfl, ?_⟩, fun _ => rfl⟩ ?_
        · intro w; go_simp
        refine wpAnyIn_take (i := 5) (v := .pointer (some ⟨g, o + 2 * x.val + 1, none⟩)) rfl rfl (by kernel_rfl) (by kernel_rfl) (by kernel_rfl) (fun _ _ _ h => h) ⟨Or.inl ⟨by rfl, ?_⟩, fun _ => rfl⟩ ?_
        · intro w; go_simp
        refine wpAnyIn_ready (rs := [0, 3, 6]) (by kernel_rfl) (by simp) ?_
        refine AllReadyIn.cons rfl (fun K hK => ?_) ?_
        · go_simp
          refine hK _ _ ?_; clear hK K
          refine wpAnyIn_ready (rs := [3, 6]) (by kernel_rfl) (by simp) ?_
          refine AllReadyIn.cons rfl (fun K hK => ?_) ?_
          · go_simp
            refine hK _ _ ?_; clear hK K
            refine wpAnyIn_ready (rs := [6]) (by kernel_rfl) (by simp) ?_
            refine AllReadyIn.cons rfl (fun K hK => ?_) ?_
            · go_simp
              refine hK _ _ ?_; clear hK K
              refine wpAnyIn_ready (rs := [7]) (by kernel_rfl) (by simp) ?_
              refine AllReadyIn.cons rfl (fun K hK => ?_) ?_
              · go_simp
                gi_wp2_with (refine ⟨trivial, ?_⟩; refine (callsIn_wide.2 hj.out).mono ?_; rintro e5 w5 ⟨rfl, hB5⟩; obtain ⟨gg, cap2, w7, hrun, y1, ⟨u, y2⟩, y3, fin⟩ := hrunA.out w5 hB5; have y4 := (hB5.cell (p := ⟨W.heap.size, 0, none⟩) hs7V).trans hc7d; have Fin := Lib.hid fin; clear fin)
                refine wpAnyIn_ready (rs := [8]) (by kernel_rfl) (by simp) ?_
                refine AllReadyIn.cons rfl (fun K hK => ?_) ?_
                · go_simp
                  refine hK _ _ ?_; clear hK K
                  refine wpAnyIn_ready (rs := [9]) (by kernel_rfl) (by simp) ?_
                  refine AllReadyIn.cons rfl (fun K hK => ?_) ?_
                  · go_simp
                    refine hK _ _ ?_; clear hK K
                    refine wpAnyIn_ready (rs := [10]) (by kernel_rfl) (by simp) ?_
                    refine AllReadyIn.cons rfl (fun K hK => ?_) ?_
                    · go_simp
                      refine hK _ _ ?_; clear hK K
                      refine wpAnyIn_done (by kernel_rfl) ?_ _
                      exact Fin.out
                    exact AllReadyIn.nil
                  exact AllReadyIn.nil
                exact AllReadyIn.nil
              exact AllReadyIn.nil
            exact AllReadyIn.nil
          refine AllReadyIn.cons rfl (fun K hK => ?_) ?_
          · go_simp
            refine hK _ _ ?_; clear hK K
            refine wpAnyIn_ready (rs := [3]) (by kernel_rfl) (by simp) ?_
            refine AllReadyIn.cons rfl (fun K hK => ?_) ?_
            · go_simp
              refine hK _ _ ?_; clear hK K
              refine wpAnyIn_ready (rs := [7]) (by kernel_rfl) (by simp) ?_
              refine AllReadyIn.cons rfl (fun K hK => ?_) ?_
              · go_simp
                gi_wp2_with (refine ⟨trivial, ?_⟩; refine (callsIn_wide.2 hj.out).mono ?_; rintro e5 w5 ⟨rfl, hB5⟩; obtain ⟨gg, cap2, w7, hrun, y1, ⟨u, y2⟩, y3, fin⟩ := hrunA.out w5 hB5; have y4 := (hB5.cell (p := ⟨W.heap.size, 0, none⟩) hs7V).trans hc7d; have Fin := Lib.hid fin; clear fin)
                refine wpAnyIn_ready (rs := [8]) (by kernel_rfl) (by simp) ?_
                refine AllReadyIn.cons rfl (fun K hK => ?_) ?_
                · go_simp
                  refine hK _ _ ?_; clear hK K
                  refine wpAnyIn_ready (rs := [9]) (by kernel_rfl) (by simp) ?_
                  refine AllReadyIn.cons rfl (fun K hK => ?_) ?_
                  · go_simp
                    refine hK _ _ ?_; clear hK K
                    refine wpAnyIn_ready (rs := [10]) (by kernel_rfl) (by simp) ?_
                    refine AllReadyIn.cons rfl (fun K hK => ?_) ?_
                    · go_simp
                      refine hK _ _ ?_; clear hK K
                      refine wpAnyIn_done (by kernel_rfl) ?_ _
                      exact Fin.out
                    exact AllReadyIn.nil
                  exact AllReadyIn.nil
                exact AllReadyIn.nil
              exact AllReadyIn.nil
            exact AllReadyIn.nil
          exact AllReadyIn.nil
        refine AllReadyIn.cons rfl (fun K hK => ?_) ?_
        · go_simp
          refine hK _ _ ?_; clear hK K
          refine wpAnyIn_ready (rs := [0, 6]) (by kernel_rfl) (by simp) ?_
          refine AllReadyIn.cons rfl (fun K hK => ?_) ?_
          · go_simp
            refine hK _ _ ?_; clear hK K
            refine wpAnyIn_ready (rs := [6]) (by kernel_rfl) (by simp) ?_
            refine AllReadyIn.cons rfl (fun K hK => ?_) ?_
            · go_simp
              refine hK _ _ ?_; clear hK K
              refine wpAnyIn_ready (rs := [7]) (by kernel_rfl) (by simp) ?_
              refine AllReadyIn.cons rfl (fun K hK => ?_) ?_
              · go_simp
                gi_wp2_with (refine ⟨trivial, ?_⟩; refine (callsIn_wide.2 hj.out).mono ?_; rintro e5 w5 ⟨rfl, hB5⟩; obtain ⟨gg, cap2, w7, hrun, y1, ⟨u, y2⟩, y3, fin⟩ := hrunA.out w5 hB5; have y4 := (hB5.cell (p := ⟨W.heap.size, 0, none⟩) hs7V).trans hc7d; have Fin := Lib.hid fin; clear fin)
                refine wpAnyIn_ready (rs := [8]) (by kernel_rfl) (by simp) ?_
                refine AllReadyIn.cons rfl (fun K hK => ?_) ?_
                · go_simp
                  refine hK _ _ ?_; clear hK K
                  refine wpAnyIn_ready (rs := [9]) (by kernel_rfl) (by simp) ?_
                  refine AllReadyIn.cons rfl (fun K hK => ?_) ?_
                  · go_simp
                    refine hK _ _ ?_; clear hK K
                    refine wpAnyIn_ready (rs := [10]) (by kernel_rfl) (by simp) ?_
                    refine AllReadyIn.cons rfl (fun K hK => ?_) ?_
                    · go_simp
                      refine hK _ _ ?_; clear hK K
                      refine wpAnyIn_done (by kernel_rfl) ?_ _
                      exact Fin.out
                    exact AllReadyIn.nil
                  exact AllReadyIn.nil
                exact AllReadyIn.nil
              exact AllReadyIn.nil
            exact AllReadyIn.nil
          refine AllReadyIn.cons rfl (fun K hK => ?_) ?_
          · go_simp
            refine hK _ _ ?_; clear hK K
            refine wpAnyIn_ready (rs := [0, 7]) (by kernel_rfl) (by simp) ?_
            refine AllReadyIn.cons rfl (fun K hK => ?_) ?_
            · go_simp
              refine hK _ _ ?_; clear hK K
              refine wpAnyIn_ready (rs := [7]) (by kernel_rfl) (by simp) ?_
              refine AllReadyIn.cons rfl (fun K hK => ?_) ?_
              · go_simp
                gi_wp2_with (refine ⟨trivial, ?_⟩; refine (callsIn_wide.2 hj.out).mono ?_; rintro e5 w5 ⟨rfl, hB5⟩; obtain ⟨gg, cap2, w7, hrun, y1, ⟨u, y2⟩, y3, fin⟩ := hrunA.out w5 hB5; have y4 := (hB5.cell (p := ⟨W.heap.size, 0, none⟩) hs7V).trans hc7d; have Fin := Lib.hid fin; clear fin)
                refine wpAnyIn_ready (rs := [8]) (by kernel_rfl) (by simp) ?_
                refine AllReadyIn.cons rfl (fun K hK => ?_) ?_
                · go_simp
                  refine hK _ _ ?_; clear hK K
                  refine wpAnyIn_ready (rs := [9]) (by kernel_rfl) (by simp) ?_
                  refine AllReadyIn.cons rfl (fun K hK => ?_) ?_
                  · go_simp
                    refine hK _ _ ?_; clear hK K
                    refine wpAnyIn_ready (rs := [10]) (by kernel_rfl) (by simp) ?_
                    refine AllReadyIn.cons rfl (fun K hK => ?_) ?_
                    · go_simp
                      refine hK _ _ ?_; clear hK K
                      refine wpAnyIn_done (by kernel_rfl) ?_ _
                      exact Fin.out
                    exact AllReadyIn.nil
                  exact AllReadyIn.nil
                exact AllReadyIn.nil
              exact AllReadyIn.nil
            refine AllReadyIn.cons rfl (fun K hK => ?_) ?_
            · go_simp
              gi_wp2_with (refine ⟨trivial, ?_⟩; refine (callsIn_wide.2 hj.out).mono ?_; rintro e5 w5 ⟨rfl, hB5⟩; obtain ⟨gg, cap2, w7, hrun, y1, ⟨u, y2⟩, y3, fin⟩ := hrunA.out w5 hB5; have y4 := (hB5.cell (p := ⟨W.heap.size, 0, none⟩) hs7V).trans hc7d; have Fin := Lib.hid fin; clear fin)
              refine wpAnyIn_ready (rs := [0, 8]) (by kernel_rfl) (by simp) ?_
              refine AllReadyIn.cons rfl (fun K hK => ?_) ?_
              · go_simp
                refine hK _ _ ?_; clear hK K
                refine wpAnyIn_ready (rs := [8]) (by kernel_rfl) (by simp) ?_
                refine AllReadyIn.cons rfl (fun K hK => ?_) ?_
                · go_simp
                  refine hK _ _ ?_; clear hK K
                  refine wpAnyIn_ready (rs := [9]) (by kernel_rfl) (by simp) ?_
                  refine AllReadyIn.cons rfl (fun K hK => ?_) ?_
                  · go_simp
                    refine hK _ _ ?_; clear hK K
                    refine wpAnyIn_ready (rs := [10]) (by kernel_rfl) (by simp) ?_
                    refine AllReadyIn.cons rfl (fun K hK => ?_) ?_
                    · go_simp
                      refine hK _ _ ?_; clear hK K
                      refine wpAnyIn_done (by kernel_rfl) ?_ _
                      exact Fin.out
                    exact AllReadyIn.nil
                  exact AllReadyIn.nil
                exact AllReadyIn.nil
              refine AllReadyIn.cons rfl (fun K hK => ?_) ?_
              · go_simp
                refine hK _ _ ?_; clear hK K
                refine wpAnyIn_ready (rs := [0]) (by kernel_rfl) (by simp) ?_
                refine AllReadyIn.cons rfl (fun K hK => ?_) ?_
                · go_simp
                  refine hK _ _ ?_; clear hK K
                  refine wpAnyIn_ready (rs := [9]) (by kernel_rfl) (by simp) ?_
                  refine AllReadyIn.cons rfl (fun K hK => ?_) ?_
                  · go_simp
                    refine hK _ _ ?_; clear hK K
                    refine wpAnyIn_ready (rs := [10]) (by kernel_rfl) (by simp) ?_
                    refine AllReadyIn.cons rfl (fun K hK => ?_) ?_
                    · go_simp
                      refine hK _ _ ?_; clear hK K
                      refine wpAnyIn_done (by kernel_rfl) ?_ _
                      exact Fin.out
                    exact AllReadyIn.nil
                  exact AllReadyIn.nil
                exact AllReadyIn.nil
              exact AllReadyIn.nil
            exact AllReadyIn.nil
          exact AllReadyIn.nil
        refine AllReadyIn.cons rfl (fun K hK => ?_) ?_
        · go_simp
          refine hK _ _ ?_; clear hK K
          refine wpAnyIn_ready (rs := [0, 3]) (by kernel_rfl) (by simp) ?_
          refine AllReadyIn.cons rfl (fun K hK => ?_) ?_
          · go_simp
            refine hK _ _ ?_; clear hK K
            refine wpAnyIn_ready (rs := [3]) (by kernel_rfl) (by simp) ?_
            refine AllReadyIn.cons rfl (fun K hK => ?_) ?_
            · go_simp
              refine hK _ _ ?_; clear hK K
              refine wpAnyIn_ready (rs := [7]) (by kernel_rfl) (by simp) ?_
              refine AllReadyIn.cons rfl (fun K hK => ?_) ?_
              · go_simp
                gi_wp2_with (refine ⟨trivial, ?_⟩; refine (callsIn_wide.2 hj.out).mono ?_; rintro e5 w5 ⟨rfl, hB5⟩; obtain ⟨gg, cap2, w7, hrun, y1, ⟨u, y2⟩, y3, fin⟩ := hrunA.out w5 hB5; have y4 := (hB5.cell (p := ⟨W.heap.size, 0, none⟩) hs7V).trans hc7d; have Fin := Lib.hid fin; clear fin)
                refine wpAnyIn_ready (rs := [8]) (by kernel_rfl) (by simp) ?_
                refine AllReadyIn.cons rfl (fun K hK => ?_) ?_
                · go_simp
                  refine hK _ _ ?_; clear hK K
                  refine wpAnyIn_ready (rs := [9]) (by kernel_rfl) (by simp) ?_
                  refine AllReadyIn.cons rfl (fun K hK => ?_) ?_
                  · go_simp
                    refine hK _ _ ?_; clear hK K
                    refine wpAnyIn_ready (rs := [10]) (by kernel_rfl) (by simp) ?_
                    refine AllReadyIn.cons rfl (fun K hK => ?_) ?_
                    · go_simp
                      refine hK _ _ ?_; clear hK K
                      refine wpAnyIn_done (by kernel_rfl) ?_ _
                      exact Fin.out
                    exact AllReadyIn.nil
                  exact AllReadyIn.nil
                exact AllReadyIn.nil
              exact AllReadyIn.nil
            exact AllReadyIn.nil
          refine AllReadyIn.cons rfl (fun K hK => ?_) ?_
          · go_simp
            refine hK _ _ ?_; clear hK K
            refine wpAnyIn_ready (rs := [0, 7]) (by kernel_rfl) (by simp) ?_
            refine AllReadyIn.cons rfl (fun K hK => ?_) ?_
            · go_simp
              refine hK _ _ ?_; clear hK K
              refine wpAnyIn_ready (rs := [7]) (by kernel_rfl) (by simp) ?_
              refine AllReadyIn.cons rfl (fun K hK => ?_) ?_
              · go_simp
                gi_wp2_with (refine ⟨trivial, ?_⟩; refine (callsIn_wide.2 hj.out).mono ?_; rintro e5 w5 ⟨rfl, hB5⟩; obtain ⟨gg, cap2, w7, hrun, y1, ⟨u, y2⟩, y3, fin⟩ := hrunA.out w5 hB5; have y4 := (hB5.cell (p := ⟨W.heap.size, 0, none⟩) hs7V).trans hc7d; have Fin := Lib.hid fin; clear fin)
                refine wpAnyIn_ready (rs := [8]) (by kernel_rfl) (by simp) ?_
                refine AllReadyIn.cons rfl (fun K hK => ?_) ?_
                · go_simp
                  refine hK _ _ ?_; clear hK K
                  refine wpAnyIn_ready (rs := [9]) (by kernel_rfl) (by simp) ?_
                  refine AllReadyIn.cons rfl (fun K hK => ?_) ?_
                  · go_simp
                    refine hK _ _ ?_; clear hK K
                    refine wpAnyIn_ready (rs := [10]) (by kernel_rfl) (by simp) ?_
                    refine AllReadyIn.cons rfl (fun K hK => ?_) ?_
                    · go_simp
                      refine hK _ _ ?_; clear hK K
                      refine wpAnyIn_done (by kernel_rfl) ?_ _
                      exact Fin.out
                    exact AllReadyIn.nil
                  exact AllReadyIn.nil
                exact AllReadyIn.nil
              exact AllReadyIn.nil
            refine AllReadyIn.cons rfl (fun K hK => ?_) ?_
            · go_simp
              gi_wp2_with (refine ⟨trivial, ?_⟩; refine (callsIn_wide.2 hj.out).mono ?_; rintro e5 w5 ⟨rfl, hB5⟩; obtain ⟨gg, cap2, w7, hrun, y1, ⟨u, y2⟩, y3, fin⟩ := hrunA.out w5 hB5; have y4 := (hB5.cell (p := ⟨W.heap.size, 0, none⟩) hs7V).trans hc7d; have Fin := Lib.hid fin; clear fin)
              refine wpAnyIn_ready (rs := [0, 8]) (by kernel_rfl) (by simp) ?_
              refine AllReadyIn.cons rfl (fun K hK => ?_) ?_
              · go_simp
                refine hK _ _ ?_; clear hK K
                refine wpAnyIn_ready (rs := [8]) (by kernel_rfl) (by simp) ?_
                refine AllReadyIn.cons rfl (fun K hK => ?_) ?_
                · go_simp
                  refine hK _ _ ?_; clear hK K
                  refine wpAnyIn_ready (rs := [9]) (by kernel_rfl) (by simp) ?_
                  refine AllReadyIn.cons rfl (fun K hK => ?_) ?_
                  · go_simp
                    refine hK _ _ ?_; clear hK K
                    refine wpAnyIn_ready (rs := [10]) (by kernel_rfl) (by simp) ?_
                    refine AllReadyIn.cons rfl (fun K hK => ?_) ?_
                    · go_simp
                      refine hK _ _ ?_; clear hK K
                      refine wpAnyIn_done (by kernel_rfl) ?_ _
                      exact Fin.out
                    exact AllReadyIn.nil
                  exact AllReadyIn.nil
                exact AllReadyIn.nil
              refine AllReadyIn.cons rfl (fun K hK => ?_) ?_
              · go_simp
                refine hK _ _ ?_; clear hK K
                refine wpAnyIn_ready (rs := [0]) (by kernel_rfl) (by simp) ?_
                refine AllReadyIn.cons rfl (fun K hK => ?_) ?_
                · go_simp
                  refine hK _ _ ?_; clear hK K
                  refine wpAnyIn_ready (rs := [9]) (by kernel_rfl) (by simp) ?_
                  refine AllReadyIn.cons rfl (fun K hK => ?_) ?_
                  · go_simp
                    refine hK _ _ ?_; clear hK K
                    refine wpAnyIn_ready (rs := [10]) (by kernel_rfl) (by simp) ?_
                    refine AllReadyIn.cons rfl (fun K hK => ?_) ?_
                    · go_simp
                      refine hK _ _ ?_; clear hK K
                      refine wpAnyIn_done (by kernel_rfl) ?_ _
                      exact Fin.out
                    exact AllReadyIn.nil
                  exact AllReadyIn.nil
                exact AllReadyIn.nil
              exact AllReadyIn.nil
            exact AllReadyIn.nil
          exact AllReadyIn.nil
        exact AllReadyIn.nil

end Go.Proofs.YtcgkomafaepjnaaGreatDoor
namespace Go.Proofs.YtcgkomafaepjnaaGreatDoor
open Go.RowKit

def cutB (s : ByteArray) : ByteArray := s.extract 0 (min s.size 20)
def keyB (s : ByteArray) : Tx := tagOf 1 [(cutB s).data.toList]
def putOf (q : ByteArray × ByteArray) : Tx × Tx := (keyB q.1, (cutB q.2).data.toList)
/-- The first k puts. -/
def putsOf (l : List (ByteArray × ByteArray)) (k : Nat) : Puts := (l.take k).map putOf
theorem cutB_size (s : ByteArray) : (cutB s).size ≤ 20 := by
  unfold cutB
  rw [ByteArray.size_extract]
  omega
theorem keyB_length (s : ByteArray) : (keyB s).length = 16 := tagOf_length _ _
theorem putsOf_small {l : List (ByteArray × ByteArray)} {k : Nat} {q : Tx × Tx} (h : q ∈ putsOf l k) : q.1.length = 16 ∧ q.2.length ≤ 20 := by
  obtain ⟨x, _, rfl⟩ := List.mem_map.1 h
  exact ⟨keyB_length _, cutB_size _⟩
theorem putsOf_length (l : List (ByteArray × ByteArray)) (k : Nat) : (putsOf l k).length ≤ k := by
  unfold putsOf
  rw [List.length_map, List.length_take]
  omega
theorem putsOf_succ {l : List (ByteArray × ByteArray)} {k : Nat} (h : k < l.length) : putsOf l (k + 1) = putsOf l k ++ [putOf l[k]] := by
  unfold putsOf
  rw [List.take_succ_eq_append_getElem h, List.map_append]; rfl

/-- What a slice of puts holds. -/
structure PutsAt (w : World) (a : Option Addr) (n : Nat) (l : List (ByteArray × ByteArray)) : Prop where
  len : l.length = n
  cell : ∀ k (h : k < l.length), ∃ g o, a = some ⟨g, o, none⟩ ∧ g < w.heap.size ∧ w.cell? ⟨g, o + k * 2, none⟩ = some (.string (l[k]).1) ∧ w.cell? ⟨g, o + k * 2 + 1, none⟩ = some (.string (l[k]).2)
theorem PutsAt.old {w w' : World} {a : Option Addr} {n : Nat} {l : List (ByteArray × ByteArray)} (h : PutsAt w a n l) (hb : Below w.heap.size w w') : PutsAt w' a n l :=
  ⟨h.len, fun k hk => by
    obtain ⟨g, o, e, hg, h1, h2⟩ := h.cell k hk
    exact ⟨g, o, e, Nat.lt_of_lt_of_le hg hb.size, (hb.cell (p := ⟨g, o + k * 2, none⟩) hg).trans h1, (hb.cell (p := ⟨g, o + k * 2 + 1, none⟩) hg).trans h2⟩⟩

theorem Touch.heap_cell {S : Nat → Prop} {a b : World} (h : Touch S a b) {k j : Nat} {v : Value} (hc : a.cell? ⟨k, j, none⟩ = some v) (hs : ¬ S k) : b.cell? ⟨k, j, none⟩ = some v := by
  rw [World.cell?_of_block (w := a) (w' := b) (a := ⟨k, j, none⟩) (h.block k (World.block_lt_of_cell? a _ hc) hs)]; exact hc

end Go.Proofs.YtcgkomafaepjnaaGreatDoor
