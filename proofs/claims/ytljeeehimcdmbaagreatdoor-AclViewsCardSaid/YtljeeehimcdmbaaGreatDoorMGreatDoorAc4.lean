/- AclViews: parts of its proof. No condition. -/
import Derived.Test.YtljeeehimcdmbaaGreatDoorMGreatDoorAc1
import Derived.Deep.RegionHeld3
import Derived.Laws.OwnMore
section
/- The walks of what the law asks of its inputs: toponymlaw20.Few, toponymlaw31.few, toponymlaw31.short, toponymlaw21.Few. No condition. -/
namespace Go.Proofs.YtljeeehimcdmbaaGreatDoor
open Go.RowKit Go.Wd Go.Dir Go.Shelf

def shortQ (who key attr : ByteArray) : Bool := decide (who.size ≤ 3000) && (decide (key.size ≤ 3000) && decide (attr.size ≤ 1000))

theorem short_any (who key attr : ByteArray) (kind : Int) (w : World) :
    Calls Tryz.prog 9 #[.agg #[.string who, .string key, .string attr, .int .i64 kind]] w fun e w' => e = .returned (.bool (shortQ who key attr)) ∧ Bel w w' := by
  obtain ⟨r, hr⟩ : ∃ r, r = shortQ who key attr := ⟨_, rfl⟩
  rw [← hr]
  unfold shortQ at hr
  have Hr := Lib.hid hr
  clear hr
  go_enter Tryz.func9, Tryz.ntmps9
  by_cases h1 : who.size ≤ 3000
  · by_cases h2 : key.size ≤ 3000
    · by_cases h3 : attr.size ≤ 1000
      · obtain rfl : r = true := by rw [Hr.out]; simp [h1, h2, h3]
        clear Hr
        go_wp2
        go_ret
        exact ⟨ret_bool (by simp; omega), (Bel.refl w).alloc _⟩
      · obtain rfl : r = false := by rw [Hr.out]; simp [h3]
        clear Hr
        go_wp2
        go_ret
        exact ⟨ret_bool (by simp; omega), (Bel.refl w).alloc _⟩
    · obtain rfl : r = false := by rw [Hr.out]; simp [h2]
      clear Hr
      go_wp2
      go_ret
      exact ⟨rfl, (Bel.refl w).alloc _⟩
  · obtain rfl : r = false := by rw [Hr.out]; simp [h1]
    clear Hr
    go_wp2
    go_ret
    exact ⟨rfl, (Bel.refl w).alloc _⟩

def fewG (g : Grant) : Bool := decide (g.who.size ≤ 3000) && (decide (g.below.size ≤ 3000) && decide (g.attr.size ≤ 1000))
def fewL (l : List Grant) : Bool := decide (l.length ≤ 30) && l.all fewG

theorem getD_mem {α : Type} (l : List α) (i : Nat) (d : α) (hi : i < l.length) : l.getD i d ∈ l := by
  rw [List.getD_eq_getElem?_getD, List.getElem?_eq_getElem hi]; exact List.getElem_mem _
theorem all_take {α : Type} (p : α → Bool) (l : List α) (d : α) (k : Nat) (hk : k < l.length) (h : (l.take k).all p = true) (h' : p (l.getD k d) = true) : (l.take (k + 1)).all p = true := by
  rw [List.take_succ_eq_append_getElem hk, List.all_append, h]
  rw [List.getD_eq_getElem?_getD, List.getElem?_eq_getElem hk] at h'
  simpa using h'
theorem all_not {α : Type} (p : α → Bool) (l : List α) (d : α) (k : Nat) (hk : k < l.length) (h' : p (l.getD k d) = false) : l.all p = false := by
  rw [List.all_eq_false]; exact ⟨_, getD_mem l k d hk, by rw [h']; simp⟩

set_option maxHeartbeats 800000 in
theorem few_any (l : List Grant) (v : Value) (w : World) (hs : Sl w v 7 l.length (grantCells l)) :
    Calls Tryz.prog 8 #[v] w fun e w' => e = .returned (.bool (fewL l)) ∧ w' = w := by
  obtain ⟨q, cap, rfl⟩ : ∃ q cap, v = .slice q l.length cap := by obtain ⟨_, q, cap, h, _⟩ := hs; exact ⟨q, cap, h⟩
  obtain ⟨r, hr⟩ : ∃ r, r = fewL l := ⟨_, rfl⟩
  rw [← hr]
  unfold fewL at hr
  have Hr := Lib.hid hr
  clear hr
  go_enter Tryz.func8, Tryz.ntmps8
  by_cases h0 : l.length ≤ 30
  case neg =>
    obtain rfl : r = false := by rw [Hr.out]; simp [h0]
    clear Hr hs
    generalize l.length = n at *
    go_wp2
    go_ret
    exact ⟨rfl, rfl⟩
  have hr := Hr.out
  rw [decide_eq_true h0, Bool.true_and] at hr
  have Hr := Lib.hid hr
  clear hr
  go_wp2
  go_loopw [3] (fun i wr => ∃ k : Nat, k ≤ l.length ∧ i = .int .i64 k ∧ (l.take k).all fewG = true ∧ wr = w) (fun i _ => l.length - (intOf i).toNat)
  case atStart => exact ⟨0, Nat.zero_le _, rfl, rfl, rfl⟩
  case round =>
    obtain ⟨k, hk, rfl, hall, rfl⟩ := hrel
    by_cases hlt : k < l.length
    · obtain ⟨b, off, cap', e, c0, c1, c2, -, -, -, -⟩ := grant_at hs k hlt
      cases e
      have HY := fun h' => Lib.hid (all_take fewG l Grant.none k hlt hall h')
      have HN := fun h' => Lib.hid (all_not fewG l Grant.none k hlt h')
      clear hall hs
      unfold fewG at HY HN
      generalize l.getD k Grant.none = x at *
      obtain ⟨n1, hn1⟩ : ∃ n, n = x.who.size := ⟨_, rfl⟩
      by_cases h1 : x.who.size ≤ 3000
      · by_cases h2 : x.below.size ≤ 3000
        · by_cases h3 : x.attr.size ≤ 1000
          · have HY' := HY (by simp [h1, h2, h3])
            clear HY HN
            go_wp2
            go_roundw
            case rel => exact ⟨k + 1, by omega, by go_num, HY'.out, trivial⟩
            case measure => simp [intOf]; omega
          · obtain rfl : r = false := by rw [Hr.out]; exact (HN (by simp [h3])).out
            clear HY HN
            go_wp2
            go_ret
            exact ⟨rfl, rfl⟩
        · obtain rfl : r = false := by rw [Hr.out]; exact (HN (by simp [h2])).out
          clear HY HN
          go_wp2
          go_ret
          exact ⟨rfl, rfl⟩
      · obtain rfl : r = false := by rw [Hr.out]; exact (HN (by simp [h1])).out
        clear HY HN
        go_wp2
        go_ret
        exact ⟨rfl, rfl⟩
    · have e : k = l.length := by omega
      subst e
      rw [List.take_length] at hall
      obtain rfl : r = true := by rw [Hr.out, hall]
      clear hs hall
      go_wp2
      go_ret
      exact ⟨rfl, rfl⟩

def fewT (a : Attr) : Bool := decide (a.name.size ≤ 1000) && decide (a.above.size ≤ 1000)
def fewA (l : List Attr) : Bool := decide (l.length ≤ 40) && l.all fewT

set_option maxHeartbeats 800000 in
theorem few20_any (l : List Attr) (v : Value) (w : World) (hs : Sl w v 6 l.length (attrCells l)) :
    Calls Tryz.prog 19 #[v] w fun e w' => e = .returned (.bool (fewA l)) ∧ w' = w := by
  obtain ⟨q, cap, rfl⟩ : ∃ q cap, v = .slice q l.length cap := by obtain ⟨_, q, cap, h, _⟩ := hs; exact ⟨q, cap, h⟩
  obtain ⟨r, hr⟩ : ∃ r, r = fewA l := ⟨_, rfl⟩
  rw [← hr]
  unfold fewA at hr
  have Hr := Lib.hid hr
  clear hr
  go_enter Tryz.func19, Tryz.ntmps19
  by_cases h0 : l.length ≤ 40
  case neg =>
    obtain rfl : r = false := by rw [Hr.out]; simp [h0]
    clear Hr hs
    generalize l.length = n at *
    go_wp2
    go_ret
    exact ⟨rfl, rfl⟩
  have hr := Hr.out
  rw [decide_eq_true h0, Bool.true_and] at hr
  have Hr := Lib.hid hr
  clear hr
  go_wp2
  go_loopw [3] (fun i wr => ∃ k : Nat, k ≤ l.length ∧ i = .int .i64 k ∧ (l.take k).all fewT = true ∧ wr = w) (fun i _ => l.length - (intOf i).toNat)
  case atStart => exact ⟨0, Nat.zero_le _, rfl, rfl, rfl⟩
  case round =>
    obtain ⟨k, hk, rfl, hall, rfl⟩ := hrel
    by_cases hlt : k < l.length
    · obtain ⟨b, off, cap', e, c0, c1, -, -, -, -⟩ := attr_at hs k hlt
      cases e
      have HY := fun h' => Lib.hid (all_take fewT l Attr.none k hlt hall h')
      have HN := fun h' => Lib.hid (all_not fewT l Attr.none k hlt h')
      clear hall hs
      unfold fewT at HY HN
      generalize l.getD k Attr.none = x at *
      by_cases h1 : x.name.size ≤ 1000
      · by_cases h2 : x.above.size ≤ 1000
        · have HY' := HY (by simp [h1, h2])
          clear HY HN
          go_wp2
          go_roundw
          case rel => exact ⟨k + 1, by omega, by go_num, HY'.out, trivial⟩
          case measure => simp [intOf]; omega
        · obtain rfl : r = false := by rw [Hr.out]; exact (HN (by simp [h2])).out
          clear HY HN
          go_wp2
          go_ret
          exact ⟨rfl, rfl⟩
      · obtain rfl : r = false := by rw [Hr.out]; exact (HN (by simp [h1])).out
        clear HY HN
        go_wp2
        go_ret
        exact ⟨rfl, rfl⟩
    · have e : k = l.length := by omega
      subst e
      rw [List.take_length] at hall
      obtain rfl : r = true := by rw [Hr.out, hall]
      clear hs hall
      go_wp2
      go_ret
      exact ⟨rfl, rfl⟩
/-- A class: its texts, and its lists' places and lengths. -/
structure Cls where
  name : ByteArray
  above : ByteArray
  bare : Bool
  mq : Option Addr
  mn : Nat
  mc : Nat
  yq : Option Addr
  yn : Nat
  yc : Nat
def Cls.cells (c : Cls) : List Value := [.string c.name, .string c.above, .bool c.bare, .slice c.mq c.mn c.mc, .slice c.yq c.yn c.yc]
def Cls.none : Cls := ⟨⟨#[]⟩, ⟨#[]⟩, false, Option.none, 0, 0, Option.none, 0, 0⟩
def clsCells (l : List Cls) : List Value := l.flatMap Cls.cells

theorem cls_at {w : World} {v : Value} {l : List Cls} (h : Sl w v 5 l.length (clsCells l)) (i : Nat) (hi : i < l.length) :
    ∃ b off cap, v = .slice (some ⟨b, off, none⟩) l.length cap ∧ w.cell? ⟨b, off + i * 5, none⟩ = some (.string (l.getD i Cls.none).name) ∧
      w.cell? ⟨b, off + i * 5 + 1, none⟩ = some (.string (l.getD i Cls.none).above) ∧ w.cell? ⟨b, off + i * 5 + 2, none⟩ = some (.bool (l.getD i Cls.none).bare) ∧
      w.cell? ⟨b, off + i * 5 + 3, none⟩ = some (.slice (l.getD i Cls.none).mq (l.getD i Cls.none).mn (l.getD i Cls.none).mc) ∧ w.cell? ⟨b, off + i * 5 + 4, none⟩ = some (.slice (l.getD i Cls.none).yq (l.getD i Cls.none).yn (l.getD i Cls.none).yc) := by
  obtain ⟨hl, a, cap, rfl, h1, h2, hc⟩ := h
  obtain ⟨b, off, rfl, _⟩ := hc (i * 5) (by omega)
  have e : ∀ (l : List Cls) (i k : Nat), i < l.length → k < 5 → (clsCells l).getD (i * 5 + k) undef = (l.getD i Cls.none).cells.getD k undef := by
    intro l
    induction l with
    | nil => intro i k hi; simp at hi
    | cons x r ih =>
      intro i k hi hk
      cases i with
      | zero =>
        show (x.cells ++ clsCells r).getD _ _ = x.cells.getD k undef
        rw [List.getD_eq_getElem?_getD, List.getD_eq_getElem?_getD, List.getElem?_append_left (by simp [Cls.cells]; omega)]
        simp
      | succ i =>
        show (x.cells ++ clsCells r).getD _ _ = (r.getD i Cls.none).cells.getD k undef
        rw [List.getD_eq_getElem?_getD, List.getElem?_append_right (by simp [Cls.cells]; omega), ← List.getD_eq_getElem?_getD]
        have : (i + 1) * 5 + k - x.cells.length = i * 5 + k := by simp [Cls.cells]; omega
        rw [this]
        exact ih i k (by simpa using hi) hk
  have g : ∀ k, k < 5 → w.cell? ⟨b, off + (i * 5 + k), none⟩ = some ((l.getD i Cls.none).cells.getD k undef) := by
    intro k hk
    obtain ⟨b', off', e1, e2⟩ := hc (i * 5 + k) (by omega)
    cases e1
    rw [e2, e l i k hi hk]
  simp only [← Nat.add_assoc] at g
  exact ⟨b, off, cap, rfl, g 0 (by omega), g 1 (by omega), g 2 (by omega), g 3 (by omega), g 4 (by omega)⟩

def fewC (c : Cls) : Bool := decide (c.mn ≤ 20) && (decide (c.yn ≤ 20) && (decide (c.name.size ≤ 1000) && decide (c.above.size ≤ 1000)))
def fewS (l : List Attr) (cs : List Cls) : Bool := fewA l && (decide (cs.length ≤ 20) && cs.all fewC)

set_option maxHeartbeats 1600000 in
theorem few21_any (l : List Attr) (cs : List Cls) (v u : Value) (w : World) (hs : Sl w v 6 l.length (attrCells l)) (hc : Sl w u 5 cs.length (clsCells cs)) :
    Calls Tryz.prog 7 #[.agg #[v, u]] w fun e w' => e = .returned (.bool (fewS l cs)) ∧ Bel w w' := by
  have HA := fun w' (h : Bel w w') => Lib.hid (few20_any l v w' (hs.bel h))
  obtain ⟨q, cap, rfl⟩ : ∃ q cap, v = .slice q l.length cap := by obtain ⟨_, q, cap, h, _⟩ := hs; exact ⟨q, cap, h⟩
  obtain ⟨qc, capc, rfl⟩ : ∃ q cap, u = .slice q cs.length cap := by obtain ⟨_, q, cap, h, _⟩ := hc; exact ⟨q, cap, h⟩
  clear hs
  obtain ⟨r, hr⟩ : ∃ r, r = fewS l cs := ⟨_, rfl⟩
  rw [← hr]
  unfold fewS at hr
  have HC := Lib.hid hc
  have Hr := Lib.hid hr
  clear hr hc
  go_enter Tryz.func7, Tryz.ntmps7
  cases ha : fewA l with
  | false =>
    rw [ha] at HA
    obtain rfl : r = false := by rw [Hr.out, ha]; rfl
    clear Hr ha HC
    go_wp2_with fail
    refine (HA _ ((Bel.refl w).alloc _)).out.mono ?_
    rintro e w' ⟨rfl, rfl⟩
    go_wp2
    go_ret
    exact ⟨rfl, (Bel.refl w).alloc _⟩
  | true =>
    rw [ha] at HA
    have hr := Hr.out
    rw [ha, Bool.true_and] at hr
    have Hr := Lib.hid hr
    clear hr ha
    by_cases h0 : cs.length ≤ 20
    case neg =>
      obtain rfl : r = false := by rw [Hr.out]; simp [h0]
      clear Hr HC
      go_wp2_with fail
      refine (HA _ ((Bel.refl w).alloc _)).out.mono ?_
      rintro e w' ⟨rfl, rfl⟩
      clear HA
      go_wp2
      go_ret
      exact ⟨rfl, (Bel.refl w).alloc _⟩
    have hr := Hr.out
    rw [decide_eq_true h0, Bool.true_and] at hr
    have Hr := Lib.hid hr
    clear hr
    go_wp2_with fail
    refine (HA _ ((Bel.refl w).alloc _)).out.mono ?_
    rintro e w' ⟨rfl, rfl⟩
    clear HA
    go_wp2
    have hb0 := (Bel.refl w).alloc (.cells #[.slice q l.length cap, .slice qc cs.length capc] 25)
    have hn0 := new_at w (.cells #[.slice q l.length cap, .slice qc cs.length capc] 25)
    have hc0 := HC.out.bel hb0
    generalize w.alloc (.cells #[.slice q l.length cap, .slice qc cs.length capc] 25) = W0 at *
    have Hb0 := Lib.hid hb0
    have Hn0 := Lib.hid hn0
    have Hc0 := Lib.hid hc0
    clear hb0 hn0 hc0 HC
    go_loopw [3] (fun i wr => ∃ k : Nat, k ≤ cs.length ∧ i = .int .i64 k ∧ (cs.take k).all fewC = true ∧ Bel W0 wr) (fun i _ => cs.length - (intOf i).toNat)
    case atStart => exact ⟨0, Nat.zero_le _, rfl, rfl, Bel.refl _⟩
    case round =>
      obtain ⟨k, hk, rfl, hall, hb⟩ := hrel
      have f1 := cellk (hb.at Hn0.out) 1 _ rfl
      by_cases hlt : k < cs.length
      · obtain ⟨b, off, cap', e, c0, c1, c2, c3, c4⟩ := cls_at (Hc0.out.bel hb) k hlt
        cases e
        have HY := fun h' => Lib.hid (all_take fewC cs Cls.none k hlt hall h')
        have HN := fun h' => Lib.hid (all_not fewC cs Cls.none k hlt h')
        have Hb := Lib.hid hb
        clear hall hb
        unfold fewC at HY HN
        generalize cs.getD k Cls.none = x at *
        by_cases h1 : x.mn ≤ 20
        · by_cases h2 : x.yn ≤ 20
          · by_cases h3 : x.name.size ≤ 1000
            · by_cases h4 : x.above.size ≤ 1000
              · have HY' := HY (by simp [h1, h2, h3, h4])
                clear HY HN
                go_wp2
                go_roundw
                case rel => exact ⟨k + 1, by omega, by go_num, HY'.out, Hb.out.alloc _⟩
                case measure => simp [intOf]; omega
              · obtain rfl : r = false := by rw [Hr.out]; exact (HN (by simp [h4])).out
                clear HY HN
                go_wp2
                go_ret
                exact ⟨rfl, Hb0.out.trans (Hb.out.alloc _)⟩
            · obtain rfl : r = false := by rw [Hr.out]; exact (HN (by simp [h3])).out
              clear HY HN
              go_wp2
              go_ret
              exact ⟨rfl, Hb0.out.trans (Hb.out.alloc _)⟩
          · obtain rfl : r = false := by rw [Hr.out]; exact (HN (by simp [h2])).out
            clear HY HN
            go_wp2
            go_ret
            exact ⟨rfl, Hb0.out.trans (Hb.out.alloc _)⟩
        · obtain rfl : r = false := by rw [Hr.out]; exact (HN (by simp [h1])).out
          clear HY HN
          go_wp2
          go_ret
          exact ⟨rfl, Hb0.out.trans (Hb.out.alloc _)⟩
      · have e : k = cs.length := by omega
        subst e
        rw [List.take_length] at hall
        obtain rfl : r = true := by rw [Hr.out, hall]
        have Hb := Lib.hid hb
        clear hall hb
        go_wp2
        go_ret
        exact ⟨rfl, Hb0.out.trans Hb.out⟩
end Go.Proofs.YtljeeehimcdmbaaGreatDoor
end

section
/- The walk of toponymlaw31.fits. No condition. -/
namespace Go.Proofs.YtljeeehimcdmbaaGreatDoor
open Go.RowKit Go.Wd Go.Dir Go.Shelf

def attrP (l : List Attr) (attr : ByteArray) (g : Grant) : Bool := eqs g.attr ⟨#[]⟩ || (eqs g.attr attr || isA l attr g.attr)
def fits31 (l : List Attr) (who key attr : ByteArray) (kind : Int) (g : Grant) : Bool :=
  meant who key g && (attrP l attr g && (oneKind kind && (landI g.kinds kind != 0 && Dk.underR key g.below)))

theorem fits31_eq (l : List Attr) (who key attr : ByteArray) (kind : Int) (g : Grant) : fits31 l who key attr kind g = (oneKind kind && fitsG l who key attr kind g) := by
  unfold fits31 fitsG attrP
  cases meant who key g <;> cases oneKind kind <;> cases (landI g.kinds kind != 0) <;> cases (Dk.underR key g.below) <;> cases (eqs g.attr ⟨#[]⟩ || (eqs g.attr attr || isA l attr g.attr)) <;> rfl

set_option maxHeartbeats 2000000 in
theorem fits31_any (g : Grant) (who key attr : ByteArray) (kind : Int) (l : List Attr) (v : Value) (q2 : Option Addr) (m2 cap2 : Nat) (w : World)
    (hs : Sl w v 6 l.length (attrCells l)) (hl : l.length < 100000) (ha : ∀ a ∈ l, shortA a) (hk : key.size ≤ 1000000) (hgb : g.below.size ≤ 1000000) :
    Calls Tryz.prog 18 #[.agg #[v, .slice q2 m2 cap2], gval g, .agg #[.string who, .string key, .string attr, .int .i64 kind]] w
      fun e w' => e = .returned (.bool (fits31 l who key attr kind g)) ∧ Bel w w' := by
  obtain ⟨gw, gb, ga, all, self, ks, dn⟩ := g
  have HU := fun w' => Lib.hid (Dk.under_any key gb hk hgb w')
  have HI := fun w' (h : Bel w w') => Lib.hid (is_any l v attr ga w' (hs.bel h) hl ha)
  obtain ⟨q, cap, rfl⟩ : ∃ q cap, v = .slice q l.length cap := by obtain ⟨_, q, cap, h, _⟩ := hs; exact ⟨q, cap, h⟩
  clear hs ha
  unfold gval
  dsimp only at *
  obtain ⟨r, hr⟩ : ∃ r, r = fits31 l who key attr kind ⟨gw, gb, ga, all, self, ks, dn⟩ := ⟨_, rfl⟩
  rw [← hr]
  unfold fits31 landI at hr
  obtain ⟨m, hm⟩ : ∃ m, m = meant who key ⟨gw, gb, ga, all, self, ks, dn⟩ := ⟨_, rfl⟩
  rw [← hm] at hr
  obtain ⟨p, hp⟩ : ∃ p, p = attrP l attr ⟨gw, gb, ga, all, self, ks, dn⟩ := ⟨_, rfl⟩
  rw [← hp] at hr
  unfold meant at hm
  unfold attrP at hp
  dsimp only at hm hr hp
  have Hm := Lib.hid hm
  have Hp := Lib.hid hp
  have Hr := Lib.hid hr
  clear hm hr hp
  go_enter Tryz.func18, Tryz.ntmps18
  go_upto_region 1 with fail
  have hbel := (((Bel.refl w).alloc (.cells #[.slice q l.length cap, .slice q2 m2 cap2] 25)).alloc (.cells #[.string gw, .string gb, .string ga, .bool all, .bool self, .int .i64 ks, .bool dn] 52)).alloc (.cells #[.string who, .string key, .string attr, .int .i64 kind] 28)
  have b2 := new_at ((w.alloc (.cells #[.slice q l.length cap, .slice q2 m2 cap2] 25)).alloc (.cells #[.string gw, .string gb, .string ga, .bool all, .bool self, .int .i64 ks, .bool dn] 52)) (.cells #[.string who, .string key, .string attr, .int .i64 kind] 28)
  have b1 := old_at (new_at (w.alloc (.cells #[.slice q l.length cap, .slice q2 m2 cap2] 25)) (.cells #[.string gw, .string gb, .string ga, .bool all, .bool self, .int .i64 ks, .bool dn] 52)) (.cells #[.string who, .string key, .string attr, .int .i64 kind] 28)
  have b0 := old_at (old_at (new_at w (.cells #[.slice q l.length cap, .slice q2 m2 cap2] 25)) (.cells #[.string gw, .string gb, .string ga, .bool all, .bool self, .int .i64 ks, .bool dn] 52)) (.cells #[.string who, .string key, .string attr, .int .i64 kind] 28)
  simp only [World.size_alloc] at b0 b1 b2 ⊢
  generalize hW0 : World.alloc _ _ = W0 at *
  clear hW0
  have g0 : W0.cell? ⟨w.heap.size + 1, 0, none⟩ = some (.string gw) := cellk b1 0 _ rfl
  have g1 : W0.cell? ⟨w.heap.size + 1, 1, none⟩ = some (.string gb) := cellk b1 1 _ rfl
  have g2 : W0.cell? ⟨w.heap.size + 1, 2, none⟩ = some (.string ga) := cellk b1 2 _ rfl
  have g3 : W0.cell? ⟨w.heap.size + 1, 3, none⟩ = some (.bool all) := cellk b1 3 _ rfl
  have g4 : W0.cell? ⟨w.heap.size + 1, 4, none⟩ = some (.bool self) := cellk b1 4 _ rfl
  have g5 : W0.cell? ⟨w.heap.size + 1, 5, none⟩ = some (.int .i64 ks) := cellk b1 5 _ rfl
  have k0 : W0.cell? ⟨w.heap.size + 1 + 1, 0, none⟩ = some (.string who) := cellk b2 0 _ rfl
  have k1 : W0.cell? ⟨w.heap.size + 1 + 1, 1, none⟩ = some (.string key) := cellk b2 1 _ rfl
  have k2 : W0.cell? ⟨w.heap.size + 1 + 1, 2, none⟩ = some (.string attr) := cellk b2 2 _ rfl
  have k3 : W0.cell? ⟨w.heap.size + 1 + 1, 3, none⟩ = some (.int .i64 kind) := cellk b2 3 _ rfl
  have s0 : W0.cell? ⟨w.heap.size, 0, none⟩ = some (.slice q l.length cap) := cellk b0 0 _ rfl
  clear b0 b1 b2
  have Hbel := Lib.hid hbel
  clear hbel
  have e0 : ∀ x : ByteArray, (x.toList == x.toList) = true := fun x => by simp
  go_cut [7] from 10 to 44 (fun s7 wx => s7 = .bool m ∧ wx = W0)
  case first =>
    clear g1 g2 g5 k2 k3 s0 HU HI Hp Hr
    cases all
    · cases self
      · by_cases e : who = gw
        · subst e
          have e0 := e0 who
          obtain rfl : m = true := by rw [Hm.out]; simp [eqs]
          clear Hm
          go_wp2
          go_meet
          exact ⟨rfl, rfl⟩
        · obtain ⟨e0, e1, e2⟩ := eqs_no e
          obtain rfl : m = false := by rw [Hm.out, e2]; rfl
          clear Hm e e2
          go_wp2
          go_meet
          exact ⟨rfl, rfl⟩
      · by_cases e : who = ⟨#[]⟩
        · subst e
          obtain rfl : m = false := by rw [Hm.out, eqs_self]; rfl
          clear Hm
          go_wp2
          go_meet
          exact ⟨rfl, rfl⟩
        · obtain ⟨n1, n2, n3⟩ := ne_empty e
          obtain ⟨-, -, e2⟩ := eqs_no e
          by_cases e' : who = key
          · subst e'
            have e0 := e0 who
            obtain rfl : m = true := by rw [Hm.out, e2, eqs_self]; rfl
            clear Hm e e2
            go_wp2
            go_meet
            exact ⟨rfl, rfl⟩
          · obtain ⟨k0, k1, k2⟩ := eqs_no e'
            obtain rfl : m = false := by rw [Hm.out, e2, k2]; rfl
            clear Hm e e2 e' k2
            go_wp2
            go_meet
            exact ⟨rfl, rfl⟩
    · obtain rfl : m = true := by rw [Hm.out]; rfl
      clear Hm
      go_wp2
      go_meet
      exact ⟨rfl, rfl⟩
  case rest =>
    obtain ⟨rfl, rfl⟩ := hcut
    clear Hm g0 g3 g4 k0
    go_upto_region 2 with fail
    go_cut [8] from 45 to 63 (fun s8 wx => s8 = .bool p ∧ Bel wc wx)
    case first =>
      clear g1 g5 k1 k3 HU Hr
      generalize isA l attr ga = ia at *
      by_cases e : ga = ⟨#[]⟩
      · subst e
        obtain rfl : p = true := by rw [Hp.out, eqs_self]; rfl
        clear Hp HI
        go_wp2
        go_meet
        exact ⟨rfl, Bel.refl _⟩
      obtain ⟨n1, n2, n3⟩ := ne_empty e
      obtain ⟨-, -, e2⟩ := eqs_no e
      have hp := Hp.out
      rw [e2, Bool.false_or] at hp
      clear Hp e2
      by_cases e' : ga = attr
      · subst e'
        obtain rfl : p = true := by rw [hp, eqs_self]; rfl
        have e0 := e0 ga
        clear hp HI
        go_wp2
        go_meet
        exact ⟨rfl, Bel.refl _⟩
      obtain ⟨k0, k1, kk⟩ := eqs_no e'
      rw [kk, Bool.false_or] at hp
      subst hp
      clear kk
      go_wp2_with fail
      refine (HI _ Hbel.out).out.mono ?_
      rintro e w' ⟨rfl, hb⟩
      have Hb := Lib.hid hb
      clear hb HI g2 k2 s0
      go_wp2
      go_meet
      exact ⟨rfl, Hb.out⟩
    case rest =>
      obtain ⟨rfl, hw⟩ := hcut
      clear s0 g2 k2 Hp HI
      have g1 := hw.cell g1
      have g5 := hw.cell g5
      have k1 := hw.cell k1
      have k3 := hw.cell k3
      have hbel := Hbel.out.trans hw
      clear Hbel hw
      have Hbel := Lib.hid hbel
      clear hbel
      obtain ⟨o, ho⟩ : ∃ o, o = oneKind kind := ⟨_, rfl⟩
      rw [← ho] at Hr
      have Ho := Lib.hid ho
      clear ho
      go_upto_region 3 with fail
      go_cut [9] from 64 to 81 (fun s9 wx => s9 = .bool o ∧ wx = wc)
      case first =>
        clear g1 g5 k1 HU Hr Hbel
        by_cases h1 : kind = 1
        · subst h1
          obtain rfl : o = true := Ho.out
          clear Ho
          go_wp2
          go_meet
          exact ⟨rfl, rfl⟩
        by_cases h2 : kind = 2
        · subst h2
          obtain rfl : o = true := Ho.out
          clear Ho
          go_wp2
          go_meet
          exact ⟨rfl, rfl⟩
        by_cases h4 : kind = 4
        · subst h4
          obtain rfl : o = true := Ho.out
          clear Ho
          go_wp2
          go_meet
          exact ⟨rfl, rfl⟩
        by_cases h8 : kind = 8
        · subst h8
          obtain rfl : o = true := Ho.out
          clear Ho
          go_wp2
          go_meet
          exact ⟨rfl, rfl⟩
        obtain rfl : o = false := by rw [Ho.out]; simp [oneKind, h1, h2, h4, h8]
        clear Ho
        go_wp2
        go_meet
        exact ⟨by simp [h1, h2, h4, h8], rfl⟩
      case rest =>
        obtain ⟨rfl, rfl⟩ := hcut
        cases m
        · obtain rfl : r = false := Hr.out
          clear HU Ho Hr g1 g5 k1 k3
          go_wp2
          go_ret
          exact ⟨rfl, Hbel.out⟩
        cases p
        · obtain rfl : r = false := Hr.out
          clear HU Ho Hr g1 g5 k1 k3
          go_wp2
          go_ret
          exact ⟨rfl, Hbel.out⟩
        cases o
        · obtain rfl : r = false := Hr.out
          clear HU Ho Hr g1 g5 k1 k3
          go_wp2
          go_ret
          exact ⟨rfl, Hbel.out⟩
        clear Ho
        by_cases hand : bits BinOp.and IntKind.i64 ks kind = 0
        · have d1 : (bits BinOp.and IntKind.i64 ks kind != 0) = false := by rw [hand]; rfl
          obtain rfl : r = false := by rw [Hr.out, d1]; rfl
          clear d1 HU Hr g1 k1
          go_wp2
          go_ret
          exact ⟨rfl, Hbel.out⟩
        have d1 : (bits BinOp.and IntKind.i64 ks kind != 0) = true := by simpa using hand
        have hr := Hr.out
        rw [d1] at hr
        simp only [Bool.true_and] at hr
        clear Hr
        subst hr
        go_wp2_with fail
        refine (HU _).out.mono ?_
        rintro e w' ⟨rfl, hb⟩
        clear HU
        go_wp2
        go_ret
        exact ⟨rfl, Hbel.out.trans hb⟩
end Go.Proofs.YtljeeehimcdmbaaGreatDoor
end

section
/- What the last grant changes; appending to a slice in a drawn region. No condition. -/
namespace Go.Proofs.YtljeeehimcdmbaaGreatDoor
open Go.RowKit Go.Wd Go.Dir Go.Shelf

theorem sgs_of : ∀ gs : List Grant, (∀ g ∈ gs, g.below.size ≤ 1000000) → ∃ sl, sgs sl = gs
  | [], _ => ⟨[], rfl⟩
  | g :: gs, h => by
    obtain ⟨sl, e⟩ := sgs_of gs (fun x hx => h x (List.mem_cons_of_mem _ hx))
    exact ⟨⟨g, h g List.mem_cons_self⟩ :: sl, by show g :: sgs sl = _; rw [e]⟩

theorem bk_app (sl : List SG) (x : SG) : ∀ k, k ≤ sl.length → bk (sl ++ [x]) k = bk sl k
  | 0, _ => rfl
  | k + 1, h => by
    show (k, (sl ++ [x]).getD k SG.none) :: bk (sl ++ [x]) k = (k, sl.getD k SG.none) :: bk sl k
    rw [bk_app sl x k (by omega), List.getD_eq_getElem?_getD, List.getElem?_append_left (by omega), ← List.getD_eq_getElem?_getD]
theorem bk_last (sl : List SG) (x : SG) : bk (sl ++ [x]) (sl ++ [x]).length = (sl.length, x) :: bk sl sl.length := by
  rw [List.length_append, List.length_singleton]
  show (sl.length, (sl ++ [x]).getD sl.length SG.none) :: bk (sl ++ [x]) sl.length = _
  rw [bk_app sl x _ (Nat.le_refl _), List.getD_eq_getElem?_getD, List.getElem?_append_right (Nat.le_refl _), Nat.sub_self]
  rfl

theorem last_law (l : List Attr) (sl : List SG) (x : SG) (who key attr : ByteArray) (kind : Int) :
    allowedA l (sl ++ [x]) who key attr kind = if fits31 l who key attr kind x.g then !x.g.deny else allowedA l sl who key attr kind := by
  rw [fits31_eq]
  unfold allowedA
  rw [bk_last, List.find?_cons]
  cases oneKind kind
  · rfl
  · simp only [Bool.true_and]
    cases fitsG l who key attr kind x.g <;> rfl
theorem none_law (l : List Attr) (who key attr : ByteArray) (kind : Int) : allowedA l [] who key attr kind = false := by
  unfold allowedA
  cases oneKind kind <;> rfl

theorem grant_one : ∀ gs : List Grant, ∀ u ∈ grantCells gs, u.oneCell' = true
  | [], u, h => by cases h
  | g :: gs, u, h => by
    rcases List.mem_append.1 (show u ∈ g.cells ++ grantCells gs from h) with h | h
    · simp only [Grant.cells, List.mem_cons, List.mem_nil_iff, or_false] at h
      rcases h with rfl | rfl | rfl | rfl | rfl | rfl | rfl <;> rfl
    · exact grant_one gs u h
theorem grantCells_app (a b : List Grant) : grantCells (a ++ b) = grantCells a ++ grantCells b := by unfold grantCells; rw [List.flatMap_append]

theorem info52 : (Tryz.prog.info? 52).map (fun i => (i.zero, i.size, i.bytes)) = some (some (.agg #[.string ⟨#[]⟩, .string ⟨#[]⟩, .string ⟨#[]⟩, .bool false, .bool false, .int .i64 0, .bool false]), 7, 72) := by kernel_rfl

theorem own0 {w : World} {base g : Nat} (h : w.heap[g]? = some (.cells #[] 52)) (hb : base ≤ g) : w.ownsRow base 52 7 (.slice (some ⟨g, 0, none⟩) 0 0) 0 [] :=
  ⟨rfl, .inr ⟨g, 0, #[], rfl, hb, h, Nat.le_refl _, Nat.zero_le _, rfl, rfl⟩⟩
theorem sl_one {w : World} {b : Nat} (g : Grant) (h : w.heap[b]? = some (.cells #[.string g.who, .string g.below, .string g.attr, .bool g.all, .bool g.self, .int .i64 g.kinds, .bool g.deny] 52)) :
    Sl w (.slice (some ⟨b, 0, none⟩) 1 1) 7 1 (grantCells [g]) := by
  refine ⟨rfl, some ⟨b, 0, none⟩, 1, rfl, Nat.le_refl _, by decide, fun i hi => ⟨b, 0, rfl, ?_⟩⟩
  rw [Nat.zero_add]
  match i, hi with
  | 0, _ => exact cellk h 0 _ rfl
  | 1, _ => exact cellk h 1 _ rfl
  | 2, _ => exact cellk h 2 _ rfl
  | 3, _ => exact cellk h 3 _ rfl
  | 4, _ => exact cellk h 4 _ rfl
  | 5, _ => exact cellk h 5 _ rfl
  | 6, _ => exact cellk h 6 _ rfl

/-- Appending grants to a slice of one's own. -/
theorem app_run (W0 w : World) (ty : TypeId) (v u : Value) (n m : Nat) (xs ys : List Value) (hb : Bel W0 w) (hown : w.ownsRow W0.heap.size 52 7 v n xs) (hu : Sl w u 7 m ys) (h1 : ∀ y ∈ ys, y.oneCell' = true) (hn : n + m ≤ 1000000) :
    ∃ v' w', (Builtin.append_ #[26, 26] ty #[v, u]).run Tryz.prog w = .ok v' w' ∧ w'.ownsRow W0.heap.size 52 7 v' (n + m) (xs ++ ys) ∧ w.grownBy w' v.ownBlock ∧ Bel W0 w' := by
  obtain ⟨i, hi, hz0, hz1, hz2⟩ := info_parts info52
  obtain ⟨hl, a, cap, rfl, hc1, hc2, hc⟩ := hu
  have hrow : ∀ k, v.ownBlock = some k → W0.heap.size ≤ k := fun k e => (hown.lt k e).1
  cases a with
  | none =>
    obtain rfl : m = 0 := by
      rcases Nat.eq_zero_or_pos m with h | h
      · exact h
      · obtain ⟨b, off, e, _⟩ := hc 0 (by omega)
        cases e
    obtain rfl : ys = [] := List.eq_nil_of_length_eq_zero (by omega)
    refine ⟨v, w, ?_, by simpa using hown, ⟨rfl, rfl, rfl, Nat.le_refl _, fun _ _ _ => rfl⟩, hb⟩
    rcases hown.2 with ⟨rfl, rfl⟩ | ⟨g, cap', cur, rfl, _, _, hnc, _⟩
    · simp [Builtin.append_, run_underlying Tryz.underlying26, sizeOf, typeInfo, hi, Builtin.lenOf, Builtin.firstCells]
    · simp [Builtin.append_, run_underlying Tryz.underlying26, sizeOf, typeInfo, hi, Builtin.lenOf, Builtin.firstCells, hnc, storeCells]
  | some ad =>
    have hnews : ∀ j u, ys[j]? = some u → w.cell? (ad.add j) = some u := by
      intro j u hj
      have hj' : j < m * 7 := by rw [← hl]; exact (List.getElem?_eq_some_iff.1 hj).1
      obtain ⟨b, off, e, hcell⟩ := hc j hj'
      cases e
      have e : (⟨b, off, none⟩ : Addr).add j = ⟨b, off + j, none⟩ := by unfold Addr.add; split <;> simp_all
      rw [e, hcell, List.getD_eq_getElem?_getD, hj]; rfl
    obtain ⟨v', w', hr, h2, h3, h4⟩ := run_append_own (P := Tryz.prog) w W0.heap.size 26 ty 52 i _ 7 72 Tryz.underlying26 hi hz0 hz1 hz2 rfl (by omega) v n xs hown ad m cap ys hl hnews h1 (by simp only [maxLen]; omega) (by omega) hb.size
    exact ⟨v', w', hr, h2, h3, hb.grown h3 hrow⟩

theorem step_app {ops : Array Oper} {o : Oper} {a : Act} {K : Act → World → Prop} {Q : Exit → Act → World → Prop} {E : Prop} {w : World} (W0 : World) (hgd : o.guard = none) (s x : Operand)
    (ho : o.op = .call { callee := .builtin .append, args := #[s, x], argTypes := #[26, 26] }) (v u : Value) (n m : Nat) (xs ys : List Value) (hs : a.eval s = v) (hx : a.eval x = u)
    (hb : Bel W0 w) (hown : w.ownsRow W0.heap.size 52 7 v n xs) (hu : Sl w u 7 m ys) (h1 : ∀ y ∈ ys, y.oneCell' = true) (hn : n + m ≤ 1000000)
    (h : ∀ v' w', w'.ownsRow W0.heap.size 52 7 v' (n + m) (xs ++ ys) → w.grownBy w' v.ownBlock → Bel W0 w' → K (a.put o.dst v') w') :
    if Region.wanted o (yielded ops a.tmps) = true then Oper.wp Tryz.prog o a w K Q else E := by
  have hw : Region.wanted o (yielded ops a.tmps) = true := by simp [Region.wanted, hgd]
  rw [if_pos hw]
  obtain ⟨v', w', hr, h2, h3, h4⟩ := app_run W0 w o.type v u n m xs ys hb hown hu h1 hn
  unfold Oper.wp execOp
  simp only [ho, resolve, invoke, builtin, Sem.run_bind, Sem.run_pure, Result.andThen_ok, List.map_toArray, List.map_cons, List.map_nil, hs, hx, hr]
  exact h v' w' h2 h3 h4
end Go.Proofs.YtljeeehimcdmbaaGreatDoor
end
