/- plumboblaw04.ItemCodes: true, at whatever nodes. Conditions: the nodes as they came in; strconv's table of powers holds what its initialiser lays. -/
import Derived.Test.YtkjekofllfkgoaaDoorItAll
import Derived.Test.YtkjekofllfkgoaaDoorMadeAll
import Derived.Test.YtkjekofllfkgoaaDoorRefEnc
namespace Go.Proofs.YtkjekofllfkgoaaDoor
open Go.RowKit

theorem mk_fine (l : List NdV) (hok : ∀ p ∈ l, p.ok) (hlen : l.length ≤ 200) : Fine (mk l 8 0).1 := by
  have h := mk_steps l hok hlen 8 (by decide) (by decide)
  refine ⟨h.good 0, h.dep 0, ?_⟩
  rcases Nat.eq_zero_or_pos l.length with h0 | h0
  · rw [mk_none 8 (by omega)]; rw [IT.cnt]; decide
  · have h1 := h.cnt 0 h0
    have h2 := h.top 0 0 (by omega)
    omega

theorem take_ok {l : List NdV} {n : Nat} (h : ∀ p ∈ l, p.ok) : ∀ p ∈ l.take n, p.ok := fun p hp => h p (List.mem_of_mem_take hp)

/-- made, of so many nodes at most, from the first on. -/
theorem made_first (a : Option Addr) (len cap n : Nat) (l : List NdV) (hl : l.length = len) (hok : ∀ p ∈ l, p.ok) (hn : n ≤ 200) (hnl : n ≤ len) (w : World) (hN : NodesAt w (.slice a len cap) l) :
    Calls Tryd.prog 9 #[.slice a n cap, .int .i64 0, .int .i64 8] w (MadePost (mk (l.take n) 8 0).1 (mk (l.take n) 8 0).2 w) :=
  made_any a n cap (l.take n) (by rw [List.length_take]; omega) hn (take_ok hok) 8 (by decide) (by decide) 0 w (by omega) (hN.take hnl)

set_option maxRecDepth 100000 in
set_option maxHeartbeats 2000000 in
theorem itemCodes_any (a : Option Addr) (len cap : Nat) (l : List NdV) (hl : l.length = len) (hcap : len ≤ cap) (hok : ∀ p ∈ l, p.ok) (w : World) (hN : NodesAt w (.slice a len cap) l) (hp : Pow w) :
    Calls Tryd.prog 3 #[.slice a len cap] w fun e w' => e = .returned (.bool true) ∧ Below w.heap.size w w' := by
  have hmin : (min (len : Int) 40).toNat = min len 40 := by omega
  have HN := Lib.hid hN
  have HP := Lib.hid hp
  have Hok := Lib.hid hok
  have Hl := Lib.hid hl
  have hF := Lib.hid (mk_fine (l.take (min len 40)) (take_ok hok) (by rw [List.length_take]; omega))
  have hmade := Lib.hid (fun W hW => made_first a len cap (min len 40) l hl hok (by omega) (by omega) W hW)
  clear hN hp hok hl
  go_enter Tryd.func3, Tryd.ntmps3
  go_wp2_with fail
  refine (speaks4_any _ HP.out).mono ?_
  rintro e w1 ⟨rfl, hb1⟩
  go_wp2_with fail
  clear hmin
  have s1 := hb1.size
  refine (hmade.out w1 (HN.out.below hb1)).mono ?_
  rintro e w2 ⟨v, nv, rfl, hi, hnv, hb2⟩
  have s2 := hb2.size
  have hb2 := hb1.trans (hb2.mono s1)
  generalize (mk (l.take (min len 40)) 8 0).2 = kend at hmade ⊢
  generalize (mk (l.take (min len 40)) 8 0).1 = t at hF hi hnv
  have hcp := cnt_pos t
  obtain ⟨g, cap2, rfl, _, hgw, _, hcell⟩ := own_open hnv (by omega)
  have hnds : NdsAt w2 g 0 (nds t) := ⟨hgw, fun j u hj => by rw [Nat.zero_mul, Nat.zero_add]; exact hcell j u hj⟩
  have Hnds := Lib.hid hnds
  obtain ⟨T, u, rfl⟩ := hi.one
  clear hnv hcell hnds hmade
  go_wp2_with fail
  refine (refEnc_any g t.cnt cap2 hF.out.cnt 8 t 0 w2 hF.out.dep Hnds.out hF.out.good (by omega)).mono ?_
  rintro e w3 ⟨rfl, hb3⟩
  have s3 := hb3.size
  have hi3 := hi.old hb3
  have hb3 := hb2.trans (hb3.mono (by omega))
  clear hi
  go_wp2_with fail
  refine (enc_fine t hF.out _ _ _ hi3).mono ?_
  rintro e w4 ⟨rfl, hb4⟩
  have s4 := hb4.size
  have hi4 := hi3.old hb4
  have hb4 := hb3.trans (hb4.mono (by omega))
  clear hi3
  go_wp2_with fail
  refine (dec_fine t hF.out _).mono ?_
  rintro e w5 ⟨v5, rfl, hi5, hb5⟩
  obtain ⟨T5, u5, rfl⟩ := hi5.one
  have s5 := hb5.size
  have hi4 := hi4.old hb5
  have hb5 := hb4.trans (hb5.mono (by omega))
  go_wp2_with fail
  refine (enc_fine t hF.out _ _ _ hi5).mono ?_
  rintro e w6 ⟨rfl, hb6⟩
  have s6 := hb6.size
  have hi4 := hi4.old hb6
  have hi5 := hi5.old hb6
  have hb6 := hb5.trans (hb6.mono (by omega))
  go_wp2_with fail
  refine (show_fine t hF.out _ _ _ hi4 (HP.out.old hb6)).mono ?_
  rintro e w7 ⟨rfl, hb7⟩
  have s7 := hb7.size
  have hi5 := hi5.old hb7
  have hb7 := hb6.trans (hb7.mono (by omega))
  go_wp2_with fail
  refine (show_fine t hF.out _ _ _ hi5 (HP.out.old hb7)).mono ?_
  rintro e w8 ⟨rfl, hb8⟩
  have hb8 := hb7.trans (hb8.mono (by omega))
  go_wp2
  go_ret
  exact ⟨rfl, hb8⟩

end Go.Proofs.YtkjekofllfkgoaaDoor
