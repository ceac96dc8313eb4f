/- The walks of what the law asks of its inputs: toponymlaw20.Few, toponymlaw31.few, toponymlaw31.short, toponymlaw21.Few. No condition. -/
import Derived.Test.YtljeeehimcdmbaaGreatDoorMGreatDoorAc3
namespace Go.Proofs.YtljeeehimcdmbaaGreatDoor
open Go.RowKit Go.Wd Go.Dir Go.Shelf

def shortQ (who key attr : ByteArray) : Bool := decide (who.size ≤ 3000) && (decide (key.size ≤ 3000) && decide (attr.size ≤ 1000))

theorem short_any (who key attr : ByteArray) (kind : Int) (w : World) :
    Calls Tryz.prog 9 #[.agg #[.string who, .string key, .string attr, .int .i64 kind]] w fun e w' => e = .returned (.bool (shortQ who key attr)) ∧ Bel w w' := by
  obtain ⟨r, hr⟩ : ∃ r, r = shortQ who key attr := ⟨_, rfl⟩
  rw [← hr]
  unfold shortQ at hr
  have Hr := Lib.hid hr
  clear hr
  go_enter Tryz.func9, Tryz.ntmps9
  by_cases h1 : who.size ≤ 3000
  · by_cases h2 : key.size ≤ 3000
    · by_cases h3 : attr.size ≤ 1000
      · obtain rfl : r = true := by rw [Hr.out]; simp [h1, h2, h3]
        clear Hr
        go_wp2
        go_ret
        exact ⟨ret_bool (by simp; omega), (Bel.refl w).alloc _⟩
      · obtain rfl : r = false := by rw [Hr.out]; simp [h3]
        clear Hr
        go_wp2
        go_ret
        exact ⟨ret_bool (by simp; omega), (Bel.refl w).alloc _⟩
    · obtain rfl : r = false := by rw [Hr.out]; simp [h2]
      clear Hr
      go_wp2
      go_ret
      exact ⟨rfl, (Bel.refl w).alloc _⟩
  · obtain rfl : r = false := by rw [Hr.out]; simp [h1]
    clear Hr
    go_wp2
    go_ret
    exact ⟨rfl, (Bel.refl w).alloc _⟩

def fewG (g : Grant) : Bool := decide (g.who.size ≤ 3000) && (decide (g.below.size ≤ 3000) && decide (g.attr.size ≤ 1000))
def fewL (l : List Grant) : Bool := decide (l.length ≤ 30) && l.all fewG

theorem getD_mem {α : Type} (l : List α) (i : Nat) (d : α) (hi : i < l.length) : l.getD i d ∈ l := by
  rw [List.getD_eq_getElem?_getD, List.getElem?_eq_getElem hi]; exact List.getElem_mem _
theorem all_take {α : Type} (p : α → Bool) (l : List α) (d : α) (k : Nat) (hk : k < l.length) (h : (l.take k).all p = true) (h' : p (l.getD k d) = true) : (l.take (k + 1)).all p = true := by
  rw [List.take_succ_eq_append_getElem hk, List.all_append, h]
  rw [List.getD_eq_getElem?_getD, List.getElem?_eq_getElem hk] at h'
  simpa using h'
theorem all_not {α : Type} (p : α → Bool) (l : List α) (d : α) (k : Nat) (hk : k < l.length) (h' : p (l.getD k d) = false) : l.all p = false := by
  rw [List.all_eq_false]; exact ⟨_, getD_mem l k d hk, by rw [h']; simp⟩

set_option maxHeartbeats 800000 in
theorem few_any (l : List Grant) (v : Value) (w : World) (hs : Sl w v 7 l.length (grantCells l)) :
    Calls Tryz.prog 8 #[v] w fun e w' => e = .returned (.bool (fewL l)) ∧ w' = w := by
  obtain ⟨q, cap, rfl⟩ : ∃ q cap, v = .slice q l.length cap := by obtain ⟨_, q, cap, h, _⟩ := hs; exact ⟨q, cap, h⟩
  obtain ⟨r, hr⟩ : ∃ r, r = fewL l := ⟨_, rfl⟩
  rw [← hr]
  unfold fewL at hr
  have Hr := Lib.hid hr
  clear hr
  go_enter Tryz.func8, Tryz.ntmps8
  by_cases h0 : l.length ≤ 30
  case neg =>
    obtain rfl : r = false := by rw [Hr.out]; simp [h0]
    clear Hr hs
    generalize l.length = n at *
    go_wp2
    go_ret
    exact ⟨rfl, rfl⟩
  have hr := Hr.out
  rw [decide_eq_true h0, Bool.true_and] at hr
  have Hr := Lib.hid hr
  clear hr
  go_wp2
  go_loopw [3] (fun i wr => ∃ k : Nat, k ≤ l.length ∧ i = .int .i64 k ∧ (l.take k).all fewG = true ∧ wr = w) (fun i _ => l.length - (intOf i).toNat)
  case atStart => exact ⟨0, Nat.zero_le _, rfl, rfl, rfl⟩
  case round =>
    obtain ⟨k, hk, rfl, hall, rfl⟩ := hrel
    by_cases hlt : k < l.length
    · obtain ⟨b, off, cap', e, c0, c1, c2, -, -, -, -⟩ := grant_at hs k hlt
      cases e
      have HY := fun h' => Lib.hid (all_take fewG l Grant.none k hlt hall h')
      have HN := fun h' => Lib.hid (all_not fewG l Grant.none k hlt h')
      clear hall hs
      unfold fewG at HY HN
      generalize l.getD k Grant.none = x at *
      obtain ⟨n1, hn1⟩ : ∃ n, n = x.who.size := ⟨_, rfl⟩
      by_cases h1 : x.who.size ≤ 3000
      · by_cases h2 : x.below.size ≤ 3000
        · by_cases h3 : x.attr.size ≤ 1000
          · have HY' := HY (by simp [h1, h2, h3])
            clear HY HN
            go_wp2
            go_roundw
            case rel => exact ⟨k + 1, by omega, by go_num, HY'.out, trivial⟩
            case measure => simp [intOf]; omega
          · obtain rfl : r = false := by rw [Hr.out]; exact (HN (by simp [h3])).out
            clear HY HN
            go_wp2
            go_ret
            exact ⟨rfl, rfl⟩
        · obtain rfl : r = false := by rw [Hr.out]; exact (HN (by simp [h2])).out
          clear HY HN
          go_wp2
          go_ret
          exact ⟨rfl, rfl⟩
      · obtain rfl : r = false := by rw [Hr.out]; exact (HN (by simp [h1])).out
        clear HY HN
        go_wp2
        go_ret
        exact ⟨rfl, rfl⟩
    · have e : k = l.length := by omega
      subst e
      rw [List.take_length] at hall
      obtain rfl : r = true := by rw [Hr.out, hall]
      clear hs hall
      go_wp2
      go_ret
      exact ⟨rfl, rfl⟩

def fewT (a : Attr) : Bool := decide (a.name.size ≤ 1000) && decide (a.above.size ≤ 1000)
def fewA (l : List Attr) : Bool := decide (l.length ≤ 40) && l.all fewT

set_option maxHeartbeats 800000 in
theorem few20_any (l : List Attr) (v : Value) (w : World) (hs : Sl w v 6 l.length (attrCells l)) :
    Calls Tryz.prog 19 #[v] w fun e w' => e = .returned (.bool (fewA l)) ∧ w' = w := by
  obtain ⟨q, cap, rfl⟩ : ∃ q cap, v = .slice q l.length cap := by obtain ⟨_, q, cap, h, _⟩ := hs; exact ⟨q, cap, h⟩
  obtain ⟨r, hr⟩ : ∃ r, r = fewA l := ⟨_, rfl⟩
  rw [← hr]
  unfold fewA at hr
  have Hr := Lib.hid hr
  clear hr
  go_enter Tryz.func19, Tryz.ntmps19
  by_cases h0 : l.length ≤ 40
  case neg =>
    obtain rfl : r = false := by rw [Hr.out]; simp [h0]
    clear Hr hs
    generalize l.length = n at *
    go_wp2
    go_ret
    exact ⟨rfl, rfl⟩
  have hr := Hr.out
  rw [decide_eq_true h0, Bool.true_and] at hr
  have Hr := Lib.hid hr
  clear hr
  go_wp2
  go_loopw [3] (fun i wr => ∃ k : Nat, k ≤ l.length ∧ i = .int .i64 k ∧ (l.take k).all fewT = true ∧ wr = w) (fun i _ => l.length - (intOf i).toNat)
  case atStart => exact ⟨0, Nat.zero_le _, rfl, rfl, rfl⟩
  case round =>
    obtain ⟨k, hk, rfl, hall, rfl⟩ := hrel
    by_cases hlt : k < l.length
    · obtain ⟨b, off, cap', e, c0, c1, -, -, -, -⟩ := attr_at hs k hlt
      cases e
      have HY := fun h' => Lib.hid (all_take fewT l Attr.none k hlt hall h')
      have HN := fun h' => Lib.hid (all_not fewT l Attr.none k hlt h')
      clear hall hs
      unfold fewT at HY HN
      generalize l.getD k Attr.none = x at *
      by_cases h1 : x.name.size ≤ 1000
      · by_cases h2 : x.above.size ≤ 1000
        · have HY' := HY (by simp [h1, h2])
          clear HY HN
          go_wp2
          go_roundw
          case rel => exact ⟨k + 1, by omega, by go_num, HY'.out, trivial⟩
          case measure => simp [intOf]; omega
        · obtain rfl : r = false := by rw [Hr.out]; exact (HN (by simp [h2])).out
          clear HY HN
          go_wp2
          go_ret
          exact ⟨rfl, rfl⟩
      · obtain rfl : r = false := by rw [Hr.out]; exact (HN (by simp [h1])).out
        clear HY HN
        go_wp2
        go_ret
        exact ⟨rfl, rfl⟩
    · have e : k = l.length := by omega
      subst e
      rw [List.take_length] at hall
      obtain rfl : r = true := by rw [Hr.out, hall]
      clear hs hall
      go_wp2
      go_ret
      exact ⟨rfl, rfl⟩
/-- A class: its texts, and its lists' places and lengths. -/
structure Cls where
  name : ByteArray
  above : ByteArray
  bare : Bool
  mq : Option Addr
  mn : Nat
  mc : Nat
  yq : Option Addr
  yn : Nat
  yc : Nat
def Cls.cells (c : Cls) : List Value := [.string c.name, .string c.above, .bool c.bare, .slice c.mq c.mn c.mc, .slice c.yq c.yn c.yc]
def Cls.none : Cls := ⟨⟨#[]⟩, ⟨#[]⟩, false, Option.none, 0, 0, Option.none, 0, 0⟩
def clsCells (l : List Cls) : List Value := l.flatMap Cls.cells

theorem cls_at {w : World} {v : Value} {l : List Cls} (h : Sl w v 5 l.length (clsCells l)) (i : Nat) (hi : i < l.length) :
    ∃ b off cap, v = .slice (some ⟨b, off, none⟩) l.length cap ∧ w.cell? ⟨b, off + i * 5, none⟩ = some (.string (l.getD i Cls.none).name) ∧
      w.cell? ⟨b, off + i * 5 + 1, none⟩ = some (.string (l.getD i Cls.none).above) ∧ w.cell? ⟨b, off + i * 5 + 2, none⟩ = some (.bool (l.getD i Cls.none).bare) ∧
      w.cell? ⟨b, off + i * 5 + 3, none⟩ = some (.slice (l.getD i Cls.none).mq (l.getD i Cls.none).mn (l.getD i Cls.none).mc) ∧ w.cell? ⟨b, off + i * 5 + 4, none⟩ = some (.slice (l.getD i Cls.none).yq (l.getD i Cls.none).yn (l.getD i Cls.none).yc) := by
  obtain ⟨hl, a, cap, rfl, h1, h2, hc⟩ := h
  obtain ⟨b, off, rfl, _⟩ := hc (i * 5) (by omega)
  have e : ∀ (l : List Cls) (i k : Nat), i < l.length → k < 5 → (clsCells l).getD (i * 5 + k) undef = (l.getD i Cls.none).cells.getD k undef := by
    intro l
    induction l with
    | nil => intro i k hi; simp at hi
    | cons x r ih =>
      intro i k hi hk
      cases i with
      | zero =>
        show (x.cells ++ clsCells r).getD _ _ = x.cells.getD k undef
        rw [List.getD_eq_getElem?_getD, List.getD_eq_getElem?_getD, List.getElem?_append_left (by simp [Cls.cells]; omega)]
        simp
      | succ i =>
        show (x.cells ++ clsCells r).getD _ _ = (r.getD i Cls.none).cells.getD k undef
        rw [List.getD_eq_getElem?_getD, List.getElem?_append_right (by simp [Cls.cells]; omega), ← List.getD_eq_getElem?_getD]
        have : (i + 1) * 5 + k - x.cells.length = i * 5 + k := by simp [Cls.cells]; omega
        rw [this]
        exact ih i k (by simpa using hi) hk
  have g : ∀ k, k < 5 → w.cell? ⟨b, off + (i * 5 + k), none⟩ = some ((l.getD i Cls.none).cells.getD k undef) := by
    intro k hk
    obtain ⟨b', off', e1, e2⟩ := hc (i * 5 + k) (by omega)
    cases e1
    rw [e2, e l i k hi hk]
  simp only [← Nat.add_assoc] at g
  exact ⟨b, off, cap, rfl, g 0 (by omega), g 1 (by omega), g 2 (by omega), g 3 (by omega), g 4 (by omega)⟩

def fewC (c : Cls) : Bool := decide (c.mn ≤ 20) && (decide (c.yn ≤ 20) && (decide (c.name.size ≤ 1000) && decide (c.above.size ≤ 1000)))
def fewS (l : List Attr) (cs : List Cls) : Bool := fewA l && (decide (cs.length ≤ 20) && cs.all fewC)

set_option maxHeartbeats 1600000 in
theorem few21_any (l : List Attr) (cs : List Cls) (v u : Value) (w : World) (hs : Sl w v 6 l.length (attrCells l)) (hc : Sl w u 5 cs.length (clsCells cs)) :
    Calls Tryz.prog 7 #[.agg #[v, u]] w fun e w' => e = .returned (.bool (fewS l cs)) ∧ Bel w w' := by
  have HA := fun w' (h : Bel w w') => Lib.hid (few20_any l v w' (hs.bel h))
  obtain ⟨q, cap, rfl⟩ : ∃ q cap, v = .slice q l.length cap := by obtain ⟨_, q, cap, h, _⟩ := hs; exact ⟨q, cap, h⟩
  obtain ⟨qc, capc, rfl⟩ : ∃ q cap, u = .slice q cs.length cap := by obtain ⟨_, q, cap, h, _⟩ := hc; exact ⟨q, cap, h⟩
  clear hs
  obtain ⟨r, hr⟩ : ∃ r, r = fewS l cs := ⟨_, rfl⟩
  rw [← hr]
  unfold fewS at hr
  have HC := Lib.hid hc
  have Hr := Lib.hid hr
  clear hr hc
  go_enter Tryz.func7, Tryz.ntmps7
  cases ha : fewA l with
  | false =>
    rw [ha] at HA
    obtain rfl : r = false := by rw [Hr.out, ha]; rfl
    clear Hr ha HC
    go_wp2_with fail
    refine (HA _ ((Bel.refl w).alloc _)).out.mono ?_
    rintro e w' ⟨rfl, rfl⟩
    go_wp2
    go_ret
    exact ⟨rfl, (Bel.refl w).alloc _⟩
  | true =>
    rw [ha] at HA
    have hr := Hr.out
    rw [ha, Bool.true_and] at hr
    have Hr := Lib.hid hr
    clear hr ha
    by_cases h0 : cs.length ≤ 20
    case neg =>
      obtain rfl : r = false := by rw [Hr.out]; simp [h0]
      clear Hr HC
      go_wp2_with fail
      refine (HA _ ((Bel.refl w).alloc _)).out.mono ?_
      rintro e w' ⟨rfl, rfl⟩
      clear HA
      go_wp2
      go_ret
      exact ⟨rfl, (Bel.refl w).alloc _⟩
    have hr := Hr.out
    rw [decide_eq_true h0, Bool.true_and] at hr
    have Hr := Lib.hid hr
    clear hr
    go_wp2_with fail
    refine (HA _ ((Bel.refl w).alloc _)).out.mono ?_
    rintro e w' ⟨rfl, rfl⟩
    clear HA
    go_wp2
    have hb0 := (Bel.refl w).alloc (.cells #[.slice q l.length cap, .slice qc cs.length capc] 25)
    have hn0 := new_at w (.cells #[.slice q l.length cap, .slice qc cs.length capc] 25)
    have hc0 := HC.out.bel hb0
    generalize w.alloc (.cells #[.slice q l.length cap, .slice qc cs.length capc] 25) = W0 at *
    have Hb0 := Lib.hid hb0
    have Hn0 := Lib.hid hn0
    have Hc0 := Lib.hid hc0
    clear hb0 hn0 hc0 HC
    go_loopw [3] (fun i wr => ∃ k : Nat, k ≤ cs.length ∧ i = .int .i64 k ∧ (cs.take k).all fewC = true ∧ Bel W0 wr) (fun i _ => cs.length - (intOf i).toNat)
    case atStart => exact ⟨0, Nat.zero_le _, rfl, rfl, Bel.refl _⟩
    case round =>
      obtain ⟨k, hk, rfl, hall, hb⟩ := hrel
      have f1 := cellk (hb.at Hn0.out) 1 _ rfl
      by_cases hlt : k < cs.length
      · obtain ⟨b, off, cap', e, c0, c1, c2, c3, c4⟩ := cls_at (Hc0.out.bel hb) k hlt
        cases e
        have HY := fun h' => Lib.hid (all_take fewC cs Cls.none k hlt hall h')
        have HN := fun h' => Lib.hid (all_not fewC cs Cls.none k hlt h')
        have Hb := Lib.hid hb
        clear hall hb
        unfold fewC at HY HN
        generalize cs.getD k Cls.none = x at *
        by_cases h1 : x.mn ≤ 20
        · by_cases h2 : x.yn ≤ 20
          · by_cases h3 : x.name.size ≤ 1000
            · by_cases h4 : x.above.size ≤ 1000
              · have HY' := HY (by simp [h1, h2, h3, h4])
                clear HY HN
                go_wp2
                go_roundw
                case rel => exact ⟨k + 1, by omega, by go_num, HY'.out, Hb.out.alloc _⟩
                case measure => simp [intOf]; omega
              · obtain rfl : r = false := by rw [Hr.out]; exact (HN (by simp [h4])).out
                clear HY HN
                go_wp2
                go_ret
                exact ⟨rfl, Hb0.out.trans (Hb.out.alloc _)⟩
            · obtain rfl : r = false := by rw [Hr.out]; exact (HN (by simp [h3])).out
              clear HY HN
              go_wp2
              go_ret
              exact ⟨rfl, Hb0.out.trans (Hb.out.alloc _)⟩
          · obtain rfl : r = false := by rw [Hr.out]; exact (HN (by simp [h2])).out
            clear HY HN
            go_wp2
            go_ret
            exact ⟨rfl, Hb0.out.trans (Hb.out.alloc _)⟩
        · obtain rfl : r = false := by rw [Hr.out]; exact (HN (by simp [h1])).out
          clear HY HN
          go_wp2
          go_ret
          exact ⟨rfl, Hb0.out.trans (Hb.out.alloc _)⟩
      · have e : k = cs.length := by omega
        subst e
        rw [List.take_length] at hall
        obtain rfl : r = true := by rw [Hr.out, hall]
        have Hb := Lib.hid hb
        clear hall hb
        go_wp2
        go_ret
        exact ⟨rfl, Hb0.out.trans Hb.out⟩
end Go.Proofs.YtljeeehimcdmbaaGreatDoor
