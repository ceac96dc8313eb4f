/- The walk of the closure in acl.Allowed that tells whether a grant fits. No condition. -/
import Derived.Test.YtljeeehimcdmbaaGreatDoorMGreatDoorAt9
import Derived.Test.YtljeeehimcdmbaaGreatDoorMGreatDoorKd
import Derived.Deep.CutRange
import Derived.Deep.DeepCutAuto
namespace Go.Proofs.YtljeeehimcdmbaaGreatDoor
open Go.RowKit Go.Wd Go.Dir Go.Shelf

def eqs (a b : ByteArray) : Bool := a.toList == b.toList
/-- Whom a grant means. -/
def meant (who key : ByteArray) (g : Grant) : Bool := g.all || (g.self && (!eqs who ⟨#[]⟩ && eqs who key)) || (!g.all && !g.self && eqs who g.who)
/-- The kinds that are asked, of those that are granted. -/
def landI (a b : Int) : Int := bits BinOp.and IntKind.i64 a b
def fitsG (l : List Attr) (who key attr : ByteArray) (kind : Int) (g : Grant) : Bool :=
  meant who key g && (landI g.kinds kind != 0 && (Dk.underR key g.below && (eqs g.attr ⟨#[]⟩ || (eqs g.attr attr || isA l attr g.attr))))

theorem eqs_true {a b : ByteArray} (h : eqs a b = true) : a = b := toList_inj (beq_iff_eq.1 h)
theorem eqs_no {a b : ByteArray} (h : ¬ a = b) : (a.toList == b.toList) = false ∧ ¬ a.toList = b.toList ∧ eqs a b = false := by
  have e : (a.toList == b.toList) = false := by
    cases h' : (a.toList == b.toList) with
    | false => rfl
    | true => exact absurd (toList_inj (beq_iff_eq.1 h')) h
  exact ⟨e, fun h' => h (toList_inj h'), e⟩
theorem eqs_self (a : ByteArray) : eqs a a = true := by simp [eqs]
theorem empty_list : (⟨#[]⟩ : ByteArray).toList = [] := by rw [Lib.toList_data]
theorem ne_empty {a : ByteArray} (h : ¬ a = ⟨#[]⟩) : ¬ a.toList = [] ∧ a.toList.isEmpty = false ∧ (a.toList == []) = false := by
  have h1 : ¬ a.toList = [] := fun e => h (toList_inj (by rw [e, empty_list]))
  refine ⟨h1, ?_, ?_⟩
  · cases h' : a.toList with
    | nil => exact absurd h' h1
    | cons _ _ => rfl
  · cases h' : a.toList with
    | nil => exact absurd h' h1
    | cons _ _ => rfl

set_option maxHeartbeats 1000000 in
theorem fits_any (g : Grant) (who key attr : ByteArray) (kind : Int) (l : List Attr) (v : Value) (b1 b2 b3 b4 b5 : Nat) (w : World)
    (h1 : w.cell? ⟨b1, 0, none⟩ = some (.string who)) (h2 : w.cell? ⟨b2, 0, none⟩ = some (.string key)) (h3 : w.cell? ⟨b3, 0, none⟩ = some (.int .i64 kind)) (h4 : w.cell? ⟨b4, 0, none⟩ = some (.string attr)) (h5 : w.cell? ⟨b5, 0, none⟩ = some v)
    (hs : Sl w v 6 l.length (attrCells l)) (hl : l.length < 100000) (ha : ∀ a ∈ l, shortA a) (hk : key.size ≤ 1000000) (hgb : g.below.size ≤ 1000000) :
    Calls Tryz.prog 22 #[.agg #[.string g.who, .string g.below, .string g.attr, .bool g.all, .bool g.self, .int .i64 g.kinds, .bool g.deny], .pointer (some ⟨b1, 0, none⟩), .pointer (some ⟨b2, 0, none⟩), .pointer (some ⟨b3, 0, none⟩), .pointer (some ⟨b4, 0, none⟩), .pointer (some ⟨b5, 0, none⟩)] w
      fun e w' => e = .returned (.bool (fitsG l who key attr kind g)) ∧ Bel w w' := by
  obtain ⟨gw, gb, ga, all, self, ks, dn⟩ := g
  have HU := fun w' => Lib.hid (Dk.under_any key gb hk hgb w')
  have HI := fun w' (h : Bel w w') => Lib.hid (is_any l v attr ga w' (hs.bel h) hl ha)
  obtain ⟨q, cap, rfl⟩ : ∃ q cap, v = .slice q l.length cap := by obtain ⟨_, q, cap, h, _⟩ := hs; exact ⟨q, cap, h⟩
  obtain ⟨o, ho⟩ : ∃ o, o = Obj.cells #[.string gw, .string gb, .string ga, .bool all, .bool self, .int .i64 ks, .bool dn] 52 := ⟨_, rfl⟩
  have a1 : (w.alloc o).cell? ⟨b1, 0, none⟩ = some (.string who) := ((Bel.refl w).alloc o).cell h1
  have a2 : (w.alloc o).cell? ⟨b2, 0, none⟩ = some (.string key) := ((Bel.refl w).alloc o).cell h2
  have a3 : (w.alloc o).cell? ⟨b3, 0, none⟩ = some (.int .i64 kind) := ((Bel.refl w).alloc o).cell h3
  have a4 : (w.alloc o).cell? ⟨b4, 0, none⟩ = some (.string attr) := ((Bel.refl w).alloc o).cell h4
  have a5 : (w.alloc o).cell? ⟨b5, 0, none⟩ = some (.slice q l.length cap) := ((Bel.refl w).alloc o).cell h5
  clear h1 h2 h3 h4 h5 hs ha
  rw [ho] at a1 a2 a3 a4 a5
  clear ho o
  dsimp only at *
  obtain ⟨r, hr⟩ : ∃ r, r = fitsG l who key attr kind ⟨gw, gb, ga, all, self, ks, dn⟩ := ⟨_, rfl⟩
  rw [← hr]
  unfold fitsG landI at hr
  obtain ⟨m, hm⟩ : ∃ m, m = meant who key ⟨gw, gb, ga, all, self, ks, dn⟩ := ⟨_, rfl⟩
  rw [← hm] at hr
  unfold meant at hm
  dsimp only at hm hr
  have Hm := Lib.hid hm
  have Hr := Lib.hid hr
  clear hm hr
  go_enter Tryz.func22, Tryz.ntmps22
  go_upto_region 1 with fail
  go_cut [8] from 9 to 39 (fun s8 wx => s8 = .bool m ∧ wx = w.alloc (.cells #[.string gw, .string gb, .string ga, .bool all, .bool self, .int .i64 ks, .bool dn] 52))
  case first =>
    clear a3 a4 a5 HU HI
    cases all
    · cases self
      · by_cases e : who = gw
        · subst e
          have e0 : (who.toList == who.toList) = true := by simp
          obtain rfl : m = true := by rw [Hm.out]; simp [eqs]
          clear Hm
          go_wp2
          go_meet
          exact ⟨rfl, rfl⟩
        · obtain ⟨e0, e1, e2⟩ := eqs_no e
          obtain rfl : m = false := by rw [Hm.out, e2]; rfl
          clear Hm e e2
          go_wp2
          go_meet
          exact ⟨rfl, rfl⟩
      · by_cases e : who = ⟨#[]⟩
        · subst e
          obtain rfl : m = false := by rw [Hm.out, eqs_self]; rfl
          clear Hm
          go_wp2
          go_meet
          exact ⟨rfl, rfl⟩
        · obtain ⟨n1, n2, n3⟩ := ne_empty e
          obtain ⟨-, -, e2⟩ := eqs_no e
          by_cases e' : who = key
          · subst e'
            have e0 : (who.toList == who.toList) = true := by simp
            obtain rfl : m = true := by rw [Hm.out, e2, eqs_self]; rfl
            clear Hm e e2
            go_wp2
            go_meet
            exact ⟨rfl, rfl⟩
          · obtain ⟨k0, k1, k2⟩ := eqs_no e'
            obtain rfl : m = false := by rw [Hm.out, e2, k2]; rfl
            clear Hm e e2 e' k2
            go_wp2
            go_meet
            exact ⟨rfl, rfl⟩
    · obtain rfl : m = true := by rw [Hm.out]; rfl
      clear Hm
      go_wp2
      go_meet
      exact ⟨rfl, rfl⟩
  case rest =>
    obtain ⟨rfl, rfl⟩ := hcut
    cases m
    · obtain rfl : r = false := Hr.out
      clear a1 a2 a3 a4 a5 HU HI Hm Hr
      go_wp2
      go_ret
      exact ⟨rfl, (Bel.refl _).alloc _⟩
    clear Hm a1
    by_cases hand : bits BinOp.and IntKind.i64 ks kind = 0
    · have d1 : (bits BinOp.and IntKind.i64 ks kind != 0) = false := by rw [hand]; rfl
      obtain rfl : r = false := by rw [Hr.out, d1]; rfl
      clear d1 HU HI a2 a4 a5 Hr
      go_wp2
      go_ret
      exact ⟨rfl, (Bel.refl _).alloc _⟩
    have d1 : (bits BinOp.and IntKind.i64 ks kind != 0) = true := by simpa using hand
    have hr := Hr.out
    rw [d1, Bool.true_and, Bool.true_and] at hr
    clear Hr
    generalize Dk.underR key gb = u at *
    have Hr := Lib.hid hr
    clear hr
    cases u
    · obtain rfl : r = false := Hr.out
      clear HI a5 Hr
      go_wp2_with fail
      refine (HU _).out.mono ?_
      rintro e w' ⟨rfl, hb⟩
      have Hb := Lib.hid (((Bel.refl w).alloc _).trans hb)
      clear hb
      go_wp2
      go_ret
      exact ⟨rfl, Hb.out⟩
    have hr := Hr.out
    rw [Bool.true_and] at hr
    clear Hr
    have HI' := fun w' (h : Bel w w') => HI w' h
    clear HI
    generalize isA l attr ga = ia at *
    by_cases e : ga = ⟨#[]⟩
    · subst e
      obtain rfl : r = true := by rw [hr, eqs_self]; rfl
      clear HI' a5 hr
      go_wp2_with fail
      refine (HU _).out.mono ?_
      rintro e w' ⟨rfl, hb⟩
      have c0 := Bel.at hb (new_at w _)
      have c2 := cellk c0 2 _ rfl
      have Hb := Lib.hid (((Bel.refl w).alloc _).trans hb)
      clear hb c0
      go_wp2
      go_ret
      exact ⟨rfl, Hb.out⟩
    obtain ⟨n1, n2, n3⟩ := ne_empty e
    obtain ⟨-, -, e2⟩ := eqs_no e
    rw [e2, Bool.false_or] at hr
    clear e2
    by_cases e' : ga = attr
    · subst e'
      obtain rfl : r = true := by rw [hr, eqs_self]; rfl
      clear hr
      have e0 : (ga.toList == ga.toList) = true := by simp
      clear HI' a5
      go_wp2_with fail
      refine (HU _).out.mono ?_
      rintro e w' ⟨rfl, hb⟩
      have c0 := Bel.at hb (new_at w _)
      have c2 := cellk c0 2 _ rfl
      have c4 := Bel.cell hb a4
      have Hb := Lib.hid (((Bel.refl w).alloc _).trans hb)
      clear hb c0
      go_wp2
      go_ret
      exact ⟨rfl, Hb.out⟩
    obtain ⟨k0, k1, k2⟩ := eqs_no e'
    rw [k2, Bool.false_or] at hr
    subst hr
    clear k2
    go_wp2_with fail
    refine (HU _).out.mono ?_
    rintro e w' ⟨rfl, hb⟩
    have c0 := Bel.at hb (new_at w _)
    have c2 := cellk c0 2 _ rfl
    have c4 := Bel.cell hb a4
    have c5 := Bel.cell hb a5
    have Hb := Lib.hid (((Bel.refl w).alloc _).trans hb)
    clear hb c0
    go_wp2_with fail
    refine (HI' _ Hb.out).out.mono ?_
    rintro e w2 ⟨rfl, hb2⟩
    go_wp2
    go_ret
    exact ⟨rfl, Hb.out.trans hb2⟩
end Go.Proofs.YtljeeehimcdmbaaGreatDoor
