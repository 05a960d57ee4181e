/- item.AsNum, AsText, Len, At, Path: what they answer of an item. Conditions: a path of at most a thousand places. -/
import Derived.Test.YtkjekofllfkgoaaDoorItem
namespace Go.Proofs.YtkjekofllfkgoaaDoor
open Go.RowKit

def IT.nOf : IT → Int | .num n => n | _ => 0
def IT.isN : IT → Bool | .num _ => true | _ => false
def IT.tOf : IT → ByteArray | .text s => s | _ => ⟨#[]⟩
def IT.isT : IT → Bool | .text _ => true | _ => false
def IT.cOf : IT → Nat | .list l => l.length | _ => 0
def IT.isL : IT → Bool | .list _ => true | _ => false

theorem asNum_any (t : IT) (v : Value) (w : World) (ok : Nat → Prop) (hi : Itm w ok v t) :
    Calls Tryd.prog 20 #[v] w fun e w' => e = .returned (.tuple #[.int .i64 t.nOf, .bool t.isN]) ∧ w = w' := by
  match t, hi with
  | .num n, hi =>
    rw [Itm.num_eq] at hi; subst hi
    have h1 := run_assert_hit (P := Tryd.prog) plainNum (.int .i64 n) 24
    go_enter Tryd.func20, Tryd.ntmps20
    go_wp2
    go_ret2
    exact ⟨rfl, rfl⟩
  | .text s, hi =>
    rw [Itm.text_eq] at hi; subst hi
    have h1 := run_assert_miss (P := Tryd.prog) plainNum zeroNum (t := 9) (by decide) (.string s) 24
    go_enter Tryd.func20, Tryd.ntmps20
    go_wp2
    go_ret2
    exact ⟨rfl, rfl⟩
  | .list l, hi =>
    rw [Itm.list_eq] at hi
    obtain ⟨a, cap, xs, rfl, _⟩ := hi
    have h1 := run_assert_miss (P := Tryd.prog) plainNum zeroNum (t := 85) (by decide) (.slice a l.length cap) 24
    go_enter Tryd.func20, Tryd.ntmps20
    go_wp2
    go_ret2
    exact ⟨rfl, rfl⟩

theorem asText_any (t : IT) (v : Value) (w : World) (ok : Nat → Prop) (hi : Itm w ok v t) :
    Calls Tryd.prog 21 #[v] w fun e w' => e = .returned (.tuple #[.string t.tOf, .bool t.isT]) ∧ w = w' := by
  match t, hi with
  | .num n, hi =>
    rw [Itm.num_eq] at hi; subst hi
    have h1 := run_assert_miss (P := Tryd.prog) plainText zeroText (t := 2) (by decide) (.int .i64 n) 24
    go_enter Tryd.func21, Tryd.ntmps21
    go_wp2
    go_ret2
    exact ⟨rfl, rfl⟩
  | .text s, hi =>
    rw [Itm.text_eq] at hi; subst hi
    have h1 := run_assert_hit (P := Tryd.prog) plainText (.string s) 24
    go_enter Tryd.func21, Tryd.ntmps21
    go_wp2
    go_ret2
    exact ⟨rfl, rfl⟩
  | .list l, hi =>
    rw [Itm.list_eq] at hi
    obtain ⟨a, cap, xs, rfl, _⟩ := hi
    have h1 := run_assert_miss (P := Tryd.prog) plainText zeroText (t := 85) (by decide) (.slice a l.length cap) 24
    go_enter Tryd.func21, Tryd.ntmps21
    go_wp2
    go_ret2
    exact ⟨rfl, rfl⟩

theorem itLen_any (t : IT) (v : Value) (w : World) (ok : Nat → Prop) (hi : Itm w ok v t) :
    Calls Tryd.prog 22 #[v] w fun e w' => e = .returned (.tuple #[.int .i64 t.cOf, .bool t.isL]) ∧ w = w' := by
  match t, hi with
  | .num n, hi =>
    rw [Itm.num_eq] at hi; subst hi
    have h1 := run_assert_miss (P := Tryd.prog) plainList zeroList (t := 2) (by decide) (.int .i64 n) 24
    go_enter Tryd.func22, Tryd.ntmps22
    go_wp2
    go_ret2
    exact ⟨rfl, rfl⟩
  | .text s, hi =>
    rw [Itm.text_eq] at hi; subst hi
    have h1 := run_assert_miss (P := Tryd.prog) plainList zeroList (t := 9) (by decide) (.string s) 24
    go_enter Tryd.func22, Tryd.ntmps22
    go_wp2
    go_ret2
    exact ⟨rfl, rfl⟩
  | .list l, hi =>
    rw [Itm.list_eq] at hi
    obtain ⟨a, cap, xs, rfl, _⟩ := hi
    have h1 := run_assert_hit (P := Tryd.prog) plainList (.slice a l.length cap) 24
    go_enter Tryd.func22, Tryd.ntmps22
    go_wp2
    go_ret2
    exact ⟨rfl, rfl⟩

/-- The item at a place of a list. -/
def IT.atP (t : IT) (i : Int) : Option IT := match t with
  | .list l => if 0 ≤ i then l[i.toNat]? else none
  | _ => none
/-- What At leaves. -/
def AtPost (t : IT) (i : Int) (ok : Nat → Prop) (w : World) (e : Ending) (w' : World) : Prop :=
  w = w' ∧ match t.atP i with
    | some q => ∃ T u, e = .returned (.tuple #[.iface T u, .bool true]) ∧ Itm w ok (.iface T u) q
    | none => e = .returned (.tuple #[.nilIface, .bool false])

theorem at_leaf (T : TypeId) (u : Value) (i : Int) (w : World) (h : T ≠ 85) :
    Calls Tryd.prog 23 #[.iface T u, .int .i64 i] w fun e w' => e = .returned (.tuple #[.nilIface, .bool false]) ∧ w = w' := by
  have h1 := run_assert_miss (P := Tryd.prog) plainList zeroList h u 24
  clear h
  by_cases hi : i < 0
  · go_enter Tryd.func23, Tryd.ntmps23
    go_wp2
    go_ret2
    exact ⟨rfl, rfl⟩
  · have h2 : decide (i < 0) = false := decide_eq_false hi
    have h3 : decide ((0 : Int) ≤ i) = true := decide_eq_true (by omega)
    go_enter Tryd.func23, Tryd.ntmps23
    go_wp2
    go_ret2
    exact ⟨rfl, rfl⟩

theorem at_any (t : IT) (v : Value) (i : Int) (w : World) (ok : Nat → Prop) (hi : Itm w ok v t) :
    Calls Tryd.prog 23 #[v, .int .i64 i] w (AtPost t i ok w) := by
  match t, hi with
  | .num n, hi => rw [Itm.num_eq] at hi; subst hi; exact (at_leaf _ _ i w (by decide)).mono fun e w' ⟨he, hw⟩ => ⟨hw, he⟩
  | .text n, hi => rw [Itm.text_eq] at hi; subst hi; exact (at_leaf _ _ i w (by decide)).mono fun e w' ⟨he, hw⟩ => ⟨hw, he⟩
  | .list l, hi =>
    rw [Itm.list_eq] at hi
    obtain ⟨a, cap, xs, rfl, hlen, hmax, ha, hx⟩ := hi
    have h1 := run_assert_hit (P := Tryd.prog) plainList (.slice a l.length cap) 24
    by_cases h0 : i < 0
    · have Hp := Lib.hid (show (IT.list l).atP i = none from if_neg (by omega))
      clear ha hx hlen
      go_enter Tryd.func23, Tryd.ntmps23
      go_wp2
      go_ret2
      unfold AtPost
      rw [Hp.out]
      exact ⟨rfl, rfl⟩
    · obtain ⟨k, rfl⟩ := Int.eq_ofNat_of_zero_le (show 0 ≤ i by omega)
      have hpk : (IT.list l).atP (k : Int) = l[k]? := by
        show (if (0 : Int) ≤ (k : Int) then l[(k : Int).toNat]? else none) = l[k]?
        rw [if_pos (by omega), Int.toNat_natCast]
      by_cases hk : k < l.length
      · obtain ⟨b, T, u, t, rfl, hb, _, ht, _, hc, hit⟩ := Itm.cell_at hx ha k hk
        have Hp := Lib.hid (show (IT.list l).atP (k : Int) = some t by rw [hpk, ht])
        have Hit := Lib.hid hit
        have hle : decide (l.length ≤ k) = false := decide_eq_false (by omega)
        clear ha hx hlen hpk hit ht
        go_enter Tryd.func23, Tryd.ntmps23
        go_wp2
        go_ret2
        unfold AtPost
        rw [Hp.out]
        exact ⟨rfl, T, u, rfl, Hit.out⟩
      · have Hp := Lib.hid (show (IT.list l).atP (k : Int) = none by rw [hpk]; exact List.getElem?_eq_none (by omega))
        have hle : decide (l.length ≤ k) = true := decide_eq_true (by omega)
        clear ha hx hlen hpk
        go_enter Tryd.func23, Tryd.ntmps23
        go_wp2
        go_ret2
        unfold AtPost
        rw [Hp.out]
        exact ⟨rfl, rfl⟩

/-- The item at a path, or the error. -/
def pathR : IT → List Int → Except Int IT
  | t, [] => .ok t
  | t, i :: ps => if t.isL then match t.atP i with | some q => pathR q ps | none => .error 10 else .error 6
def PathPost (r : Except Int IT) (ok : Nat → Prop) (w : World) (e : Ending) (w' : World) : Prop :=
  w = w' ∧ match r with
    | .ok q => ∃ T u, e = .returned (.tuple #[.iface T u, .int .i64 0]) ∧ Itm w ok (.iface T u) q
    | .error er => e = .returned (.tuple #[.nilIface, .int .i64 er])

set_option maxRecDepth 100000 in
set_option maxHeartbeats 1000000 in
theorem path_any (t : IT) (v : Value) (ps : List Int) (a : Option Addr) (cap : Nat) (w : World) (ok : Nat → Prop) (hi : Itm w ok v t) (hn : ps.length ≤ 1000) (hps : ps ≠ [] → ∃ g, a = some ⟨g, 0, none⟩ ∧ ∀ (j : Nat) z, ps[j]? = some z → w.cell? ⟨g, j, none⟩ = some (.int .i64 z)) :
    Calls Tryd.prog 24 #[v, .slice a ps.length cap] w (PathPost (pathR t ps) ok w) := by
  obtain ⟨T, u, rfl⟩ := hi.one
  have Hi := Lib.hid hi
  have Hps := Lib.hid hps
  clear hi hps
  obtain ⟨R, hR⟩ : ∃ R, R = pathR t ps := ⟨_, rfl⟩
  rw [← hR]
  have HR := Lib.hid hR
  clear hR
  go_enter Tryd.func24, Tryd.ntmps24
  go_wp2_with fail
  go_loop [0, 14] (fun x i => ∃ (k : Nat) (q : IT) (T : TypeId) (u : Value), k ≤ ps.length ∧ i = .int .i64 k ∧ x = .iface T u ∧ Itm w ok (.iface T u) q ∧ R = pathR q (ps.drop k)) (fun _ i => ps.length - (intOf i).toNat)
  case atStart => exact ⟨0, t, T, u, Nat.zero_le _, rfl, rfl, Hi.out, by rw [HR.out]; rfl⟩
  case round =>
    obtain ⟨k, q, T, u, hk, rfl, rfl, hi, hr⟩ := hrel
    have Hr := Lib.hid hr
    have HQ := Lib.hid hi
    clear hr
    by_cases hlt : k < ps.length
    · obtain ⟨z, hz, hd⟩ : ∃ z, ps[k]? = some z ∧ ps.drop k = z :: ps.drop (k + 1) := ⟨ps[k], List.getElem?_eq_getElem hlt, List.drop_eq_getElem_cons hlt⟩
      obtain ⟨g, rfl, hc⟩ := Hps.out (by intro e; subst e; simp at hlt)
      have hcz := hc k z hz
      have Hd := Lib.hid hd
      clear hz hd hc
      match q, hi, HQ, Hr with
      | .num n, hi, HQ, Hr =>
        rw [Itm.num_eq] at hi
        injection hi with e1 e2
        subst e1 e2
        have h1 := run_assert_miss (P := Tryd.prog) plainList zeroList (t := 2) (by decide) (.int .i64 n) 24
        have HR2 := Lib.hid (show R = .error 6 by rw [Hr.out, Hd.out]; rfl)
        go_wp2_with fail
        go_ret2
        rw [HR2.out]
        exact ⟨rfl, rfl⟩
      | .text s, hi, HQ, Hr =>
        rw [Itm.text_eq] at hi
        injection hi with e1 e2
        subst e1 e2
        have h1 := run_assert_miss (P := Tryd.prog) plainList zeroList (t := 9) (by decide) (.string s) 24
        have HR2 := Lib.hid (show R = .error 6 by rw [Hr.out, Hd.out]; rfl)
        go_wp2_with fail
        go_ret2
        rw [HR2.out]
        exact ⟨rfl, rfl⟩
      | .list l, hi, HQ, Hr =>
        rw [Itm.list_eq] at hi
        obtain ⟨a2, cap2, xs, hv, _⟩ := hi
        injection hv with e1 e2
        subst e1 e2
        have h1 := run_assert_hit (P := Tryd.prog) plainList (.slice a2 l.length cap2) 24
        have HR2 := Lib.hid (show R = match (IT.list l).atP z with | some q => pathR q (ps.drop (k + 1)) | none => .error 10 by rw [Hr.out, Hd.out]; rfl)
        go_wp2_with fail
        clear h1
        refine (at_any (.list l) _ z _ ok HQ.out).mono ?_
        rintro e w' ⟨rfl, hm⟩
        cases hap : (IT.list l).atP z with
        | none =>
          rw [hap] at hm
          subst hm
          have HR3 := Lib.hid (show R = .error 10 by rw [HR2.out, hap])
          clear hap
          go_wp2
          go_ret2
          rw [HR3.out]
          exact ⟨rfl, rfl⟩
        | some q =>
          rw [hap] at hm
          obtain ⟨T2, u2, rfl, hq⟩ := hm
          have HR3 := Lib.hid (show R = pathR q (ps.drop (k + 1)) by rw [HR2.out, hap])
          clear hap
          go_wp2
          go_round
          case rel => exact ⟨k + 1, q, T2, u2, by omega, by go_num, rfl, hq, HR3.out⟩
          case measure => simp [intOf]; omega
    · obtain rfl : k = ps.length := by omega
      have HR2 := Lib.hid (show R = .ok q by rw [Hr.out, List.drop_length]; unfold pathR; rfl)
      clear hi
      go_wp2
      go_ret2
      rw [HR2.out]
      exact ⟨rfl, T, u, rfl, HQ.out⟩

end Go.Proofs.YtkjekofllfkgoaaDoor
