/- AclViews: parts of its proof. No condition. -/
import Derived.Test.YtljeeehimcdmbaaGreatDoorMGreatDoorAt8
import Derived.Test.YtljeeehimcdmbaaGreatDoorMGreatDoorKb
import Derived.Deep.CutRange
import Derived.Deep.DeepCutAuto
section
/- The walk of the closure in acl.Allowed that tells whether a grant fits. No condition. -/
namespace Go.Proofs.YtljeeehimcdmbaaGreatDoor
open Go.RowKit Go.Wd Go.Dir Go.Shelf

def eqs (a b : ByteArray) : Bool := a.toList == b.toList
/-- Whom a grant means. -/
def meant (who key : ByteArray) (g : Grant) : Bool := g.all || (g.self && (!eqs who ⟨#[]⟩ && eqs who key)) || (!g.all && !g.self && eqs who g.who)
/-- The kinds that are asked, of those that are granted. -/
def landI (a b : Int) : Int := bits BinOp.and IntKind.i64 a b
def fitsG (l : List Attr) (who key attr : ByteArray) (kind : Int) (g : Grant) : Bool :=
  meant who key g && (landI g.kinds kind != 0 && (Dk.underR key g.below && (eqs g.attr ⟨#[]⟩ || (eqs g.attr attr || isA l attr g.attr))))

theorem eqs_true {a b : ByteArray} (h : eqs a b = true) : a = b := toList_inj (beq_iff_eq.1 h)
theorem eqs_no {a b : ByteArray} (h : ¬ a = b) : (a.toList == b.toList) = false ∧ ¬ a.toList = b.toList ∧ eqs a b = false := by
  have e : (a.toList == b.toList) = false := by
    cases h' : (a.toList == b.toList) with
    | false => rfl
    | true => exact absurd (toList_inj (beq_iff_eq.1 h')) h
  exact ⟨e, fun h' => h (toList_inj h'), e⟩
theorem eqs_self (a : ByteArray) : eqs a a = true := by simp [eqs]
theorem empty_list : (⟨#[]⟩ : ByteArray).toList = [] := by rw [Lib.toList_data]
theorem ne_empty {a : ByteArray} (h : ¬ a = ⟨#[]⟩) : ¬ a.toList = [] ∧ a.toList.isEmpty = false ∧ (a.toList == []) = false := by
  have h1 : ¬ a.toList = [] := fun e => h (toList_inj (by rw [e, empty_list]))
  refine ⟨h1, ?_, ?_⟩
  · cases h' : a.toList with
    | nil => exact absurd h' h1
    | cons _ _ => rfl
  · cases h' : a.toList with
    | nil => exact absurd h' h1
    | cons _ _ => rfl

set_option maxHeartbeats 1000000 in
theorem fits_any (g : Grant) (who key attr : ByteArray) (kind : Int) (l : List Attr) (v : Value) (b1 b2 b3 b4 b5 : Nat) (w : World)
    (h1 : w.cell? ⟨b1, 0, none⟩ = some (.string who)) (h2 : w.cell? ⟨b2, 0, none⟩ = some (.string key)) (h3 : w.cell? ⟨b3, 0, none⟩ = some (.int .i64 kind)) (h4 : w.cell? ⟨b4, 0, none⟩ = some (.string attr)) (h5 : w.cell? ⟨b5, 0, none⟩ = some v)
    (hs : Sl w v 6 l.length (attrCells l)) (hl : l.length < 100000) (ha : ∀ a ∈ l, shortA a) (hk : key.size ≤ 1000000) (hgb : g.below.size ≤ 1000000) :
    Calls Tryz.prog 22 #[.agg #[.string g.who, .string g.below, .string g.attr, .bool g.all, .bool g.self, .int .i64 g.kinds, .bool g.deny], .pointer (some ⟨b1, 0, none⟩), .pointer (some ⟨b2, 0, none⟩), .pointer (some ⟨b3, 0, none⟩), .pointer (some ⟨b4, 0, none⟩), .pointer (some ⟨b5, 0, none⟩)] w
      fun e w' => e = .returned (.bool (fitsG l who key attr kind g)) ∧ Bel w w' := by
  obtain ⟨gw, gb, ga, all, self, ks, dn⟩ := g
  have HU := fun w' => Lib.hid (Dk.under_any key gb hk hgb w')
  have HI := fun w' (h : Bel w w') => Lib.hid (is_any l v attr ga w' (hs.bel h) hl ha)
  obtain ⟨q, cap, rfl⟩ : ∃ q cap, v = .slice q l.length cap := by obtain ⟨_, q, cap, h, _⟩ := hs; exact ⟨q, cap, h⟩
  obtain ⟨o, ho⟩ : ∃ o, o = Obj.cells #[.string gw, .string gb, .string ga, .bool all, .bool self, .int .i64 ks, .bool dn] 52 := ⟨_, rfl⟩
  have a1 : (w.alloc o).cell? ⟨b1, 0, none⟩ = some (.string who) := ((Bel.refl w).alloc o).cell h1
  have a2 : (w.alloc o).cell? ⟨b2, 0, none⟩ = some (.string key) := ((Bel.refl w).alloc o).cell h2
  have a3 : (w.alloc o).cell? ⟨b3, 0, none⟩ = some (.int .i64 kind) := ((Bel.refl w).alloc o).cell h3
  have a4 : (w.alloc o).cell? ⟨b4, 0, none⟩ = some (.string attr) := ((Bel.refl w).alloc o).cell h4
  have a5 : (w.alloc o).cell? ⟨b5, 0, none⟩ = some (.slice q l.length cap) := ((Bel.refl w).alloc o).cell h5
  clear h1 h2 h3 h4 h5 hs ha
  rw [ho] at a1 a2 a3 a4 a5
  clear ho o
  dsimp only at *
  obtain ⟨r, hr⟩ : ∃ r, r = fitsG l who key attr kind ⟨gw, gb, ga, all, self, ks, dn⟩ := ⟨_, rfl⟩
  rw [← hr]
  unfold fitsG landI at hr
  obtain ⟨m, hm⟩ : ∃ m, m = meant who key ⟨gw, gb, ga, all, self, ks, dn⟩ := ⟨_, rfl⟩
  rw [← hm] at hr
  unfold meant at hm
  dsimp only at hm hr
  have Hm := Lib.hid hm
  have Hr := Lib.hid hr
  clear hm hr
  go_enter Tryz.func22, Tryz.ntmps22
  go_upto_region 1 with fail
  go_cut [8] from 9 to 39 (fun s8 wx => s8 = .bool m ∧ wx = w.alloc (.cells #[.string gw, .string gb, .string ga, .bool all, .bool self, .int .i64 ks, .bool dn] 52))
  case first =>
    clear a3 a4 a5 HU HI
    cases all
    · cases self
      · by_cases e : who = gw
        · subst e
          have e0 : (who.toList == who.toList) = true := by simp
          obtain rfl : m = true := by rw [Hm.out]; simp [eqs]
          clear Hm
          go_wp2
          go_meet
          exact ⟨rfl, rfl⟩
        · obtain ⟨e0, e1, e2⟩ := eqs_no e
          obtain rfl : m = false := by rw [Hm.out, e2]; rfl
          clear Hm e e2
          go_wp2
          go_meet
          exact ⟨rfl, rfl⟩
      · by_cases e : who = ⟨#[]⟩
        · subst e
          obtain rfl : m = false := by rw [Hm.out, eqs_self]; rfl
          clear Hm
          go_wp2
          go_meet
          exact ⟨rfl, rfl⟩
        · obtain ⟨n1, n2, n3⟩ := ne_empty e
          obtain ⟨-, -, e2⟩ := eqs_no e
          by_cases e' : who = key
          · subst e'
            have e0 : (who.toList == who.toList) = true := by simp
            obtain rfl : m = true := by rw [Hm.out, e2, eqs_self]; rfl
            clear Hm e e2
            go_wp2
            go_meet
            exact ⟨rfl, rfl⟩
          · obtain ⟨k0, k1, k2⟩ := eqs_no e'
            obtain rfl : m = false := by rw [Hm.out, e2, k2]; rfl
            clear Hm e e2 e' k2
            go_wp2
            go_meet
            exact ⟨rfl, rfl⟩
    · obtain rfl : m = true := by rw [Hm.out]; rfl
      clear Hm
      go_wp2
      go_meet
      exact ⟨rfl, rfl⟩
  case rest =>
    obtain ⟨rfl, rfl⟩ := hcut
    cases m
    · obtain rfl : r = false := Hr.out
      clear a1 a2 a3 a4 a5 HU HI Hm Hr
      go_wp2
      go_ret
      exact ⟨rfl, (Bel.refl _).alloc _⟩
    clear Hm a1
    by_cases hand : bits BinOp.and IntKind.i64 ks kind = 0
    · have d1 : (bits BinOp.and IntKind.i64 ks kind != 0) = false := by rw [hand]; rfl
      obtain rfl : r = false := by rw [Hr.out, d1]; rfl
      clear d1 HU HI a2 a4 a5 Hr
      go_wp2
      go_ret
      exact ⟨rfl, (Bel.refl _).alloc _⟩
    have d1 : (bits BinOp.and IntKind.i64 ks kind != 0) = true := by simpa using hand
    have hr := Hr.out
    rw [d1, Bool.true_and, Bool.true_and] at hr
    clear Hr
    generalize Dk.underR key gb = u at *
    have Hr := Lib.hid hr
    clear hr
    cases u
    · obtain rfl : r = false := Hr.out
      clear HI a5 Hr
      go_wp2_with fail
      refine (HU _).out.mono ?_
      rintro e w' ⟨rfl, hb⟩
      have Hb := Lib.hid (((Bel.refl w).alloc _).trans hb)
      clear hb
      go_wp2
      go_ret
      exact ⟨rfl, Hb.out⟩
    have hr := Hr.out
    rw [Bool.true_and] at hr
    clear Hr
    have HI' := fun w' (h : Bel w w') => HI w' h
    clear HI
    generalize isA l attr ga = ia at *
    by_cases e : ga = ⟨#[]⟩
    · subst e
      obtain rfl : r = true := by rw [hr, eqs_self]; rfl
      clear HI' a5 hr
      go_wp2_with fail
      refine (HU _).out.mono ?_
      rintro e w' ⟨rfl, hb⟩
      have c0 := Bel.at hb (new_at w _)
      have c2 := cellk c0 2 _ rfl
      have Hb := Lib.hid (((Bel.refl w).alloc _).trans hb)
      clear hb c0
      go_wp2
      go_ret
      exact ⟨rfl, Hb.out⟩
    obtain ⟨n1, n2, n3⟩ := ne_empty e
    obtain ⟨-, -, e2⟩ := eqs_no e
    rw [e2, Bool.false_or] at hr
    clear e2
    by_cases e' : ga = attr
    · subst e'
      obtain rfl : r = true := by rw [hr, eqs_self]; rfl
      clear hr
      have e0 : (ga.toList == ga.toList) = true := by simp
      clear HI' a5
      go_wp2_with fail
      refine (HU _).out.mono ?_
      rintro e w' ⟨rfl, hb⟩
      have c0 := Bel.at hb (new_at w _)
      have c2 := cellk c0 2 _ rfl
      have c4 := Bel.cell hb a4
      have Hb := Lib.hid (((Bel.refl w).alloc _).trans hb)
      clear hb c0
      go_wp2
      go_ret
      exact ⟨rfl, Hb.out⟩
    obtain ⟨k0, k1, k2⟩ := eqs_no e'
    rw [k2, Bool.false_or] at hr
    subst hr
    clear k2
    go_wp2_with fail
    refine (HU _).out.mono ?_
    rintro e w' ⟨rfl, hb⟩
    have c0 := Bel.at hb (new_at w _)
    have c2 := cellk c0 2 _ rfl
    have c4 := Bel.cell hb a4
    have c5 := Bel.cell hb a5
    have Hb := Lib.hid (((Bel.refl w).alloc _).trans hb)
    clear hb c0
    go_wp2_with fail
    refine (HI' _ Hb.out).out.mono ?_
    rintro e w2 ⟨rfl, hb2⟩
    go_wp2
    go_ret
    exact ⟨rfl, Hb.out.trans hb2⟩
end Go.Proofs.YtljeeehimcdmbaaGreatDoor
end

section
/- The walks of slices.Backward over grants and of its iterator. No condition. -/
namespace Go.Proofs.YtljeeehimcdmbaaGreatDoor
open Go.RowKit Go.Wd Go.Dir Go.Shelf
attribute [local go_sem] Oper.semAt_some

def gval (g : Grant) : Value := .agg #[.string g.who, .string g.below, .string g.attr, .bool g.all, .bool g.self, .int .i64 g.kinds, .bool g.deny]

/-- Element i of a slice of grants. -/
theorem grant_at {w : World} {v : Value} {l : List Grant} (h : Sl w v 7 l.length (grantCells l)) (i : Nat) (hi : i < l.length) :
    ∃ b off cap, v = .slice (some ⟨b, off, none⟩) l.length cap ∧ w.cell? ⟨b, off + i * 7, none⟩ = some (.string (l.getD i Grant.none).who) ∧
      w.cell? ⟨b, off + i * 7 + 1, none⟩ = some (.string (l.getD i Grant.none).below) ∧ w.cell? ⟨b, off + i * 7 + 2, none⟩ = some (.string (l.getD i Grant.none).attr) ∧
      w.cell? ⟨b, off + i * 7 + 3, none⟩ = some (.bool (l.getD i Grant.none).all) ∧ w.cell? ⟨b, off + i * 7 + 4, none⟩ = some (.bool (l.getD i Grant.none).self) ∧
      w.cell? ⟨b, off + i * 7 + 5, none⟩ = some (.int .i64 (l.getD i Grant.none).kinds) ∧ w.cell? ⟨b, off + i * 7 + 6, none⟩ = some (.bool (l.getD i Grant.none).deny) := by
  obtain ⟨hl, a, cap, rfl, h1, h2, hc⟩ := h
  obtain ⟨b, off, rfl, _⟩ := hc (i * 7) (by omega)
  have e : ∀ (l : List Grant) (i k : Nat), i < l.length → k < 7 → (grantCells l).getD (i * 7 + k) undef = (l.getD i Grant.none).cells.getD k undef := by
    intro l
    induction l with
    | nil => intro i k hi; simp at hi
    | cons x r ih =>
      intro i k hi hk
      cases i with
      | zero =>
        show (x.cells ++ grantCells r).getD _ _ = x.cells.getD k undef
        rw [List.getD_eq_getElem?_getD, List.getD_eq_getElem?_getD, List.getElem?_append_left (by simp [Grant.cells]; omega)]
        simp
      | succ i =>
        show (x.cells ++ grantCells r).getD _ _ = (r.getD i Grant.none).cells.getD k undef
        rw [List.getD_eq_getElem?_getD, List.getElem?_append_right (by simp [Grant.cells]; omega), ← List.getD_eq_getElem?_getD]
        have : (i + 1) * 7 + k - x.cells.length = i * 7 + k := by simp [Grant.cells]; omega
        rw [this]
        exact ih i k (by simpa using hi) hk
  have g : ∀ k, k < 7 → w.cell? ⟨b, off + (i * 7 + k), none⟩ = some ((l.getD i Grant.none).cells.getD k undef) := by
    intro k hk
    obtain ⟨b', off', e1, e2⟩ := hc (i * 7 + k) (by omega)
    cases e1
    rw [e2, e l i k hi hk]
  simp only [← Nat.add_assoc] at g
  exact ⟨b, off, cap, rfl, g 0 (by omega), g 1 (by omega), g 2 (by omega), g 3 (by omega), g 4 (by omega), g 5 (by omega), g 6 (by omega)⟩

theorem backward_any (q : Option Addr) (m cap : Nat) (w : World) : Calls Tryz.prog 25 #[.slice q m cap] w fun e w' =>
    e = .returned (.func (.func 39) #[] #[.pointer (some ⟨w.heap.size, 0, none⟩)]) ∧ w' = w.alloc (.cells #[.slice q m cap] 26) := by
  go_enter Tryz.func25, Tryz.ntmps25
  go_wp2
  go_ret
  exact ⟨rfl, rfl⟩

/-- A grant whose key is no longer than keys may be here. -/
structure SG where
  g : Grant
  h : g.below.size ≤ 1000000
def SG.none : SG := ⟨Grant.none, by decide⟩
def sgs (l : List SG) : List Grant := l.map SG.g
theorem sgs_len (l : List SG) : (sgs l).length = l.length := List.length_map _
theorem sgs_at (l : List SG) (i : Nat) (hi : i < l.length) : (sgs l).getD i Grant.none = (l.getD i SG.none).g := by
  unfold sgs
  rw [List.getD_eq_getElem?_getD, List.getD_eq_getElem?_getD, List.getElem?_map, List.getElem?_eq_getElem hi]; rfl

/-- Grants, the last first, with their places: those at places below k. -/
def bk (l : List SG) : Nat → List (Nat × SG)
  | 0 => []
  | k + 1 => (k, l.getD k SG.none) :: bk l k

set_option maxRecDepth 100000 in
set_option maxHeartbeats 1000000 in
theorem backward_seq (n kl : Nat) (hn : 1 ≤ n) (l : List SG) (v : Value) (hl : l.length < 1000000) (w : World)
    (h1 : w.heap[kl]? = some (.cells #[v] 26)) (hs : Sl w v 7 l.length (grantCells (sgs l))) :
    SeqStopsK Fence.wide n Tryz.prog 39 #[.pointer (some ⟨kl, 0, none⟩)] (fun x : Nat × SG => #[.int .i64 x.1, gval x.2.g]) (fun A B => Below w.heap.size A B) (fun xs => xs = bk l l.length) (fun pre => pre <+: bk l l.length) (l.length + 1) w := by
  intro lo J Jx W hW hJ hJx hY h0
  have lkl : kl < w.heap.size := (Array.getElem?_eq_some_iff.1 h1).1
  have hW1 := (hW.block kl lkl).trans h1
  have hsW : Sl W v 7 l.length (grantCells (sgs l)) := hs.bel hW
  obtain ⟨q, cap, rfl⟩ : ∃ q cap, v = .slice q l.length cap := by obtain ⟨_, q, cap, h, _⟩ := hs; exact ⟨q, cap, h⟩
  have c1 := cell_at hW1
  refine callsIn_of_wp Tryz.func39 rfl trivial ?_ rfl
  simp only [Tryz.ntmps39, List.size_toArray, List.length_cons, List.length_nil, Nat.reduceAdd, Nat.reduceSub, Array.replicate_succ, Array.replicate_zero, List.push_toArray, List.append_toArray, List.nil_append, List.cons_append]
  gi_wp2
  gi_loopw [3] (fun i wr => ∃ (k : Nat) (pre : List (Nat × SG)), i = .int .i64 ((k : Int) - 1) ∧ k ≤ l.length ∧ Below w.heap.size W wr ∧ J pre wr ∧ pre ++ bk l k = bk l l.length ∧ pre.length + k = l.length)
    (fun i wr => (intOf i + 1).toNat)
  case atStart => exact ⟨l.length, [], by go_num, Nat.le_refl _, Below.refl _ _, h0, rfl, by simp⟩
  case round =>
    obtain ⟨k, pre, rfl, hk, hbel, hJs, hbk, hpl⟩ := hrel
    have hbl := (hbel.block kl lkl).trans hW1
    have c1 := cell_at hbl
    cases k with
    | zero =>
      have Hbk := Lib.hid hbk
      have hlt : ((0 : Nat) : Int) - 1 < 0 := by omega
      clear hbk hbl hsW hW1 h1 hs hbel
      gi_wp2
      go_end0
      refine ⟨⟨_, rfl⟩, .inl ⟨pre, ?_, hJs⟩⟩
      have := Hbk.out
      simpa [bk] using this
    | succ j =>
      have hsr : Sl wr (.slice q l.length cap) 7 l.length (grantCells (sgs l)) := hsW.kept fun b hb hp hlt' => by
        have := hs.block b hb hp
        exact hbel.block b this
      obtain ⟨b, off, cap', e, g0, g1, g2, g3, g4, g5, g6⟩ := grant_at (by rw [sgs_len]; exact hsr) j (by rw [sgs_len]; omega)
      rw [sgs_len] at e
      cases e
      rw [sgs_at l j (by omega)] at g0 g1 g2 g3 g4 g5 g6
      have Hbk := Lib.hid hbk
      have e1 : ((j + 1 : Nat) : Int) - 1 = (j : Int) := by omega
      rw [e1]
      have Hpl : Hid (pre.length < l.length + 1) := Lib.hid (by omega)
      have Hbel := Lib.hid hbel
      obtain ⟨g, hg⟩ : ∃ g, g = l.getD j SG.none := ⟨_, rfl⟩
      rw [← hg] at g0 g1 g2 g3 g4 g5 g6
      have Hg := Lib.hid hg
      have hjl : j < l.length := by omega
      clear hbk hbl hsr hsW hW1 h1 hs hbel e1 hg
      obtain ⟨fn, tmps, assign, body, hy, hR⟩ := hY pre (j, g) wr hJs Hpl.out
      dsimp only [gval] at hy
      gi_wp2
      refine hR.mono ?_
      rintro e W3 (⟨rfl, hJ3, hk3⟩ | ⟨rfl, hJx3⟩)
      · gi_wp2
        go_roundw
        case rel => exact ⟨j, pre ++ [(j, g)], by first | rfl | go_num, by omega, Below.trans Hbel.out hk3, hJ3, by rw [← Hbk.out, bk, ← Hg.out]; simp, by simp; omega⟩
        case measure => simp [intOf]
      · gi_wp2
        refine bodyPost_ret (results_none rfl _ _ _) rfl ?_
        exact ⟨⟨_, rfl⟩, .inr ⟨pre ++ [(j, g)], ⟨bk l j, by rw [← Hbk.out, bk, ← Hg.out]; simp⟩, hJx3⟩⟩
end Go.Proofs.YtljeeehimcdmbaaGreatDoor
end

section
/- The walk of acl.Allowed. No condition. -/
namespace Go.Proofs.YtljeeehimcdmbaaGreatDoor
open Go.RowKit Go.Wd Go.Dir Go.Shelf
attribute [local go_sem] Oper.semAt_some

theorem storeFn {P : Program} {w : World} (a : Addr) (m : Mode) (fn : Fn) (x c : Array Value) : (store a (.func fn x c) m).run P w = stored P w a (.func fn x c) m := run_store P w a _ m rfl
attribute [local go_sem] storeFn

theorem foldl_old : ∀ (os : List Obj) (w : World) (k : Nat) (o : Obj), w.heap[k]? = some o → (os.foldl World.alloc w).heap[k]? = some o
  | [], _, _, _, h => h
  | o' :: os, w, k, o, h => foldl_old os (w.alloc o') k o (old_at h o')
theorem foldl_at : ∀ (os : List Obj) (w : World) (i : Nat) (o : Obj), os[i]? = some o → (os.foldl World.alloc w).heap[w.heap.size + i]? = some o
  | [], _, _, _, h => by simp at h
  | o' :: os, w, 0, o, h => by
    simp at h; subst h
    exact foldl_old os (w.alloc o') _ _ (new_at w o')
  | o' :: os, w, i + 1, o, h => by
    have := foldl_at os (w.alloc o') i o (by simpa using h)
    rw [World.size_alloc] at this
    rw [show w.heap.size + (i + 1) = w.heap.size + 1 + i by omega]
    exact this
theorem foldl_size : ∀ (os : List Obj) (w : World), (os.foldl World.alloc w).heap.size = w.heap.size + os.length
  | [], w => rfl
  | o :: os, w => by
    show (os.foldl World.alloc (w.alloc o)).heap.size = _
    rw [foldl_size os, World.size_alloc, List.length_cons]; omega
theorem foldl_bel : ∀ (os : List Obj) (w : World), Bel w (os.foldl World.alloc w)
  | [], w => Bel.refl w
  | o :: os, w => ((Bel.refl w).alloc o).trans (foldl_bel os (w.alloc o))

/-- The last grant that fits decides. -/
def allowedA (l : List Attr) (gs : List SG) (who key attr : ByteArray) (kind : Int) : Bool :=
  oneKind kind && match (bk gs gs.length).find? (fun x => fitsG l who key attr kind x.2.g) with
    | some x => !x.2.g.deny
    | none => false

set_option maxRecDepth 100000 in
set_option maxHeartbeats 2000000 in
theorem allowed_any (l : List Attr) (gs : List SG) (who key attr : ByteArray) (kind : Int) (v gv : Value) (q2 : Option Addr) (m2 cap2 : Nat) (w : World)
    (hs : Sl w v 6 l.length (attrCells l)) (hl : l.length < 100000) (ha : ∀ a ∈ l, shortA a) (hk : key.size ≤ 1000000) (hg : Sl w gv 7 gs.length (grantCells (sgs gs))) (hgl : gs.length < 1000000) :
    Calls Tryz.prog 11 #[.agg #[v, .slice q2 m2 cap2], gv, .string who, .string key, .string attr, .int .i64 kind] w fun e w' => e = .returned (.bool (allowedA l gs who key attr kind)) ∧ Bel w w' := by
  obtain ⟨r, hr⟩ : ∃ r, r = allowedA l gs who key attr kind := ⟨_, rfl⟩
  rw [← hr]
  unfold allowedA at hr
  have HO := fun w' => Lib.hid (one_any kind w')
  have hv' := hs
  obtain ⟨q, cap, rfl⟩ : ∃ q cap, v = .slice q l.length cap := by obtain ⟨_, q, cap, h, _⟩ := hs; exact ⟨q, cap, h⟩
  obtain ⟨qg, capg, rfl⟩ : ∃ q cap, gv = .slice q gs.length cap := by obtain ⟨_, q, cap, h, _⟩ := hg; exact ⟨q, cap, h⟩
  have HBk := fun w' => Lib.hid (backward_any qg gs.length capg w')
  have Hs := Lib.hid hs
  have Hg := Lib.hid hg
  have Hr := Lib.hid hr
  clear hs hg hv' hr
  refine (callsIn_wide (n := 6)).1 ?_
  refine callsIn_of_wp_marks Tryz.func11 rfl trivial ?_ rfl
  simp only [Tryz.ntmps11, List.size_toArray, List.length_cons, List.length_nil, Nat.reduceAdd, Nat.reduceSub, Array.replicate_succ, Array.replicate_zero, List.push_toArray, List.append_toArray, List.nil_append, List.cons_append]
  have s6 : ((((((w.alloc (.cells #[.slice q l.length cap, .slice q2 m2 cap2] 25)).alloc (.cells #[.string who] 9)).alloc (.cells #[.string key] 9)).alloc (.cells #[.string attr] 9)).alloc (.cells #[.int .i64 kind] 3)).alloc (.cells #[.bool false] 4)).heap.size = w.heap.size + 1 + 1 + 1 + 1 + 1 + 1 := by simp only [World.size_alloc]
  have n5 := new_at (((((w.alloc (.cells #[.slice q l.length cap, .slice q2 m2 cap2] 25)).alloc (.cells #[.string who] 9)).alloc (.cells #[.string key] 9)).alloc (.cells #[.string attr] 9)).alloc (.cells #[.int .i64 kind] 3)) (.cells #[.bool false] 4)
  simp only [World.size_alloc] at n5
  have r5 := cell_at n5
  have n6 := new_at ((((((w.alloc (.cells #[.slice q l.length cap, .slice q2 m2 cap2] 25)).alloc (.cells #[.string who] 9)).alloc (.cells #[.string key] 9)).alloc (.cells #[.string attr] 9)).alloc (.cells #[.int .i64 kind] 3)).alloc (.cells #[.bool false] 4)) (.cells #[.nilFunc] 74)
  rw [s6] at n6
  have r6 := cell_at n6
  have q6 := free_at n6
  have HN6 := Lib.hid n6
  have HN5 := Lib.hid n5
  clear s6 n6 n5
  cases ho : oneKind kind with
  | false =>
    rw [ho] at HO Hr
    obtain rfl : r = false := Hr.out
    gi_wp2_with (refine ⟨trivial, ?_⟩; refine (callsIn_wide.2 (HO _).out).mono ?_; rintro e w2 ⟨rfl, rfl⟩)
    exact ⟨_, by simp [results, Tryz.f11, go_sem, r5]; try rfl, rfl, ((((((Bel.refl w).alloc _).alloc _).alloc _).alloc _).alloc _).alloc _⟩
  | true =>
    rw [ho] at HO Hr
    rw [Bool.true_and] at Hr
    gi_wp2_with (first | (refine ⟨trivial, ?_⟩; refine (callsIn_wide.2 (HO _).out).mono ?_; rintro e w2 ⟨rfl, rfl⟩) | (refine ⟨trivial, ?_⟩; refine (callsIn_wide.2 (HBk _).out).mono ?_; rintro e w2 ⟨rfl, rfl⟩))
    have hsz := foldl_size [.cells #[.slice q l.length cap, .slice q2 m2 cap2] 25, .cells #[.string who] 9, .cells #[.string key] 9, .cells #[.string attr] 9, .cells #[.int .i64 kind] 3, .cells #[.bool false] 4, .cells #[.func (.func 22) #[] #[.pointer (some ⟨w.heap.size + 1, 0, none⟩), .pointer (some ⟨w.heap.size + 1 + 1, 0, none⟩), .pointer (some ⟨w.heap.size + 1 + 1 + 1 + 1, 0, none⟩), .pointer (some ⟨w.heap.size + 1 + 1 + 1, 0, none⟩), .pointer (some ⟨w.heap.size, 0, none⟩)]] 74, .cells #[.slice qg gs.length capg] 26] w
    have hat := foldl_at [.cells #[.slice q l.length cap, .slice q2 m2 cap2] 25, .cells #[.string who] 9, .cells #[.string key] 9, .cells #[.string attr] 9, .cells #[.int .i64 kind] 3, .cells #[.bool false] 4, .cells #[.func (.func 22) #[] #[.pointer (some ⟨w.heap.size + 1, 0, none⟩), .pointer (some ⟨w.heap.size + 1 + 1, 0, none⟩), .pointer (some ⟨w.heap.size + 1 + 1 + 1 + 1, 0, none⟩), .pointer (some ⟨w.heap.size + 1 + 1 + 1, 0, none⟩), .pointer (some ⟨w.heap.size, 0, none⟩)]] 74, .cells #[.slice qg gs.length capg] 26] w
    have hbel := foldl_bel [.cells #[.slice q l.length cap, .slice q2 m2 cap2] 25, .cells #[.string who] 9, .cells #[.string key] 9, .cells #[.string attr] 9, .cells #[.int .i64 kind] 3, .cells #[.bool false] 4, .cells #[.func (.func 22) #[] #[.pointer (some ⟨w.heap.size + 1, 0, none⟩), .pointer (some ⟨w.heap.size + 1 + 1, 0, none⟩), .pointer (some ⟨w.heap.size + 1 + 1 + 1 + 1, 0, none⟩), .pointer (some ⟨w.heap.size + 1 + 1 + 1, 0, none⟩), .pointer (some ⟨w.heap.size, 0, none⟩)]] 74, .cells #[.slice qg gs.length capg] 26] w
    have b0 := hat 0 _ rfl
    have b1 := hat 1 _ rfl
    have b2 := hat 2 _ rfl
    have b3 := hat 3 _ rfl
    have b4 := hat 4 _ rfl
    have b5 := hat 5 _ rfl
    have b6 := hat 6 _ rfl
    have b7 := hat 7 _ rfl
    clear hat r5 r6 q6 HN6 HN5
    simp only [List.foldl_cons, List.foldl_nil, List.length_cons, List.length_nil, Nat.add_assoc, Nat.reduceAdd, Nat.add_zero] at hsz hbel b0 b1 b2 b3 b4 b5 b6 b7 ⊢
    generalize hW0 : World.alloc _ _ = W0 at *
    clear hW0
    obtain ⟨B, hBq⟩ : ∃ B, B = w.heap.size := ⟨_, rfl⟩
    rw [← hBq] at hsz b0 b1 b2 b3 b4 b5 b6 b7 ⊢
    have HBq := Lib.hid hBq
    have hs0 : Sl W0 (.slice q l.length cap) 6 l.length (attrCells l) := Hs.out.bel hbel
    have hg0 : Sl W0 (.slice qg gs.length capg) 7 gs.length (grantCells (sgs gs)) := Hg.out.bel hbel
    have Hs0 := Lib.hid hs0
    have Hbel := Lib.hid hbel
    have B0 := Lib.hid b0
    have B1 := Lib.hid b1
    have B2 := Lib.hid b2
    have B3 := Lib.hid b3
    have B4 := Lib.hid b4
    have B5 := Lib.hid b5
    have B6 := Lib.hid b6
    clear b0 b1 b2 b3 b4 b5 b6 hs0 hBq hbel HO HBk
    refine wpIn_rangeFunc_ownH rfl (by omega) (gf := 39) (lb := #[.pointer (some ⟨B + 7, 0, none⟩)]) rfl trivial (enters_of Tryz.func39 (by kernel_rfl) rfl)
      (Kp := fun X Y => Below W0.heap.size X Y) (w0 := W0) (backward_seq 5 (B + 7) (by omega) gs _ hgl W0 b7 hg0) (fun h k => Below.trans h k) (fun W l o o' h1 h2 h3 h4 => belowK_b (w := W0) (Nat.le_refl _) W l o o' h1 h2 h3 h4) (Below.refl _ _) (fun _ => rfl)
      (fun pre W => (∀ x ∈ pre, fitsG l who key attr kind x.2.g = false) ∧ Below W0.heap.size W0 W)
      (fun c pre W => c = .ret ∧ ∃ p x, pre = p ++ [x] ∧ (∀ y ∈ p, fitsG l who key attr kind y.2.g = false) ∧ fitsG l who key attr kind x.2.g = true ∧ W.heap[B + 5]? = some (.cells #[.bool (!x.2.g.deny)] 4) ∧ Bel w W)
      ?oI ?oX ⟨by simp, Below.refl _ _⟩
      (fun x a' W => ∃ Bx, B + 8 ≤ Bx ∧ W.heap[Bx]? = some (.cells #[.string x.2.g.who, .string x.2.g.below, .string x.2.g.attr, .bool x.2.g.all, .bool x.2.g.self, .int .i64 x.2.g.kinds, .bool x.2.g.deny] 52) ∧
        a' = { tmps := #[.agg #[.slice q l.length cap, .slice q2 m2 cap2], .slice qg gs.length capg, .string who, .string key, .string attr, .int .i64 kind, .pointer (some ⟨B, 0, none⟩), undef, .pointer (some ⟨B + 1, 0, none⟩), .pointer (some ⟨B + 2, 0, none⟩), .pointer (some ⟨B + 3, 0, none⟩), .pointer (some ⟨B + 4, 0, none⟩), .pointer (some ⟨B + 5, 0, none⟩), .pointer (some ⟨B + 6, 0, none⟩), undef, .pointer (some ⟨Bx, 0, none⟩), .int .i64 kind, .bool true, .bool false,
          .func (.func 22) #[] #[.pointer (some ⟨B + 1, 0, none⟩), .pointer (some ⟨B + 2, 0, none⟩), .pointer (some ⟨B + 4, 0, none⟩), .pointer (some ⟨B + 3, 0, none⟩), .pointer (some ⟨B, 0, none⟩)], .slice qg gs.length capg, .func (.func 39) #[] #[.pointer (some ⟨B + 7, 0, none⟩)], .int .i64 x.1, gval x.2.g, undef, undef, undef, undef, undef, undef], defers := [] }) ?ax ?assign ?body ?done ?stop
    case oI =>
      rintro pre X Y row ⟨h1, h2⟩ hg hr
      exact ⟨h1, h2.grown hg h2.size (fun j e => (hr j e).1)⟩
    case oX =>
      rintro c pre X Y row ⟨h1, p, x, h2, h3, h4, h5, h6⟩ hg hr
      refine ⟨h1, p, x, h2, h3, h4, (hg.block _ (Array.getElem?_eq_some_iff.1 h5).1 (fun e => ?_)).trans h5, h6.grown hg (fun j e => by have := (hr j e).1; rw [hsz] at this; rw [← HBq.out]; omega)⟩
      have := (hr _ e.symm).1; omega
    case ax =>
      rintro x a' s X Y row ⟨Bx, h1, h2, h3⟩ hg hr
      refine ⟨Bx, h1, (hg.block Bx (Array.getElem?_eq_some_iff.1 h2).1 (fun e => ?_)).trans h2, h3⟩
      obtain ⟨_, o, ho, hc⟩ := hr Bx e.symm
      rw [h2] at ho; cases ho; cases hc
    case assign =>
      rintro lo pre ⟨i, ⟨x, hxb⟩⟩ W K ⟨h1, h2⟩ hK
      have H1 := Lib.hid h1
      have H2 := Lib.hid h2
      have hle := h2.size
      clear h1 h2
      unfold gval at *
      gi_wp2
      refine hK _ _ ((KeepsOthers.alloc W _).from _) ((Below.refl _ W).alloc hle _) ⟨H1.out, H2.out.alloc hle _⟩ ⟨W.heap.size, by omega, new_at W _, rfl⟩
    case body =>
      rintro lo pre ⟨i, ⟨x, hxb⟩⟩ a' W hlo hrec ⟨h1, h2⟩ ⟨Bx, hx1, hx2, rfl⟩ hplen
      dsimp only at hx2
      have c0 : W.cell? ⟨Bx, 0, none⟩ = some (.string x.who) := cellk hx2 0 _ rfl
      have c1 : W.cell? ⟨Bx, 1, none⟩ = some (.string x.below) := cellk hx2 1 _ rfl
      have c2 : W.cell? ⟨Bx, 2, none⟩ = some (.string x.attr) := cellk hx2 2 _ rfl
      have c3 : W.cell? ⟨Bx, 3, none⟩ = some (.bool x.all) := cellk hx2 3 _ rfl
      have c4 : W.cell? ⟨Bx, 4, none⟩ = some (.bool x.self) := cellk hx2 4 _ rfl
      have c5 : W.cell? ⟨Bx, 5, none⟩ = some (.int .i64 x.kinds) := cellk hx2 5 _ rfl
      have c6 : W.cell? ⟨Bx, 6, none⟩ = some (.bool x.deny) := cellk hx2 6 _ rfl
      have k : ∀ {j : Nat} {o : Obj}, j < B + 8 → W0.heap[j]? = some o → W.heap[j]? = some o := fun hj ho => (h2.block _ (by rw [hsz]; exact hj)).trans ho
      have d6 := cell_at (k (by omega) B6.out)
      have d5 := cell_at (k (by omega) B5.out)
      have y5 := free_at (k (by omega) B5.out)
      have hsW : Sl W (.slice q l.length cap) 6 l.length (attrCells l) := Hs0.out.bel h2
      have HF := Lib.hid (fits_any x who key attr kind l _ (B + 1) (B + 2) (B + 4) (B + 3) B W (cell_at (k (by omega) B1.out)) (cell_at (k (by omega) B2.out)) (cell_at (k (by omega) B4.out)) (cell_at (k (by omega) B3.out)) (cellk (k (by omega) B0.out) 0 _ rfl) hsW hl ha hk hxb)
      have H1 := Lib.hid h1
      have H2 := Lib.hid h2
      have HX := Lib.hid hx2
      have D5 := Lib.hid (k (by omega) B5.out)
      clear h1 h2 hx2 hsW k hrec
      unfold gval
      cases hf : fitsG l who key attr kind x with
      | true =>
        rw [hf] at HF
        have Hf := Lib.hid hf
        clear hf
        gi_wp2_with (refine ⟨trivial, ?_⟩; refine (callsIn_wide.2 HF.out).mono ?_; rintro e w2 ⟨rfl, hb2⟩; have f6 := cellk (hb2.at HX.out) 6 _ rfl; have g5 := cell_at (hb2.at D5.out); have i5 := free_at (hb2.at D5.out))
        have hbb := H2.out.size
        refine ⟨?_, rfl, pre, (i, ⟨x, hxb⟩), rfl, H1.out, Hf.out, set_at (hb2.at D5.out) _, ?_⟩
        · exact ((KeepsOthers.of_grownBy (Bel.grow hb2 none) (fun j o e => by cases e)).trans (KeepsOthers.setCell _ _ _)).from _
        · exact ((Hbel.out.trans (show Bel W0 W from H2.out)).trans hb2).set (p := ⟨B + 5, 0, none⟩) (by rw [← HBq.out]; exact Nat.le_add_right _ _) _
      | false =>
        rw [hf] at HF
        have Hf := Lib.hid hf
        clear hf
        gi_wp2_with (refine ⟨trivial, ?_⟩; refine (callsIn_wide.2 HF.out).mono ?_; rintro e w2 ⟨rfl, hb2⟩)
        exact ⟨(KeepsOthers.of_grownBy (Bel.grow hb2 none) (fun j o e => by cases e)).from _, Below.mono hb2 H2.out.size, fun y hy => (List.mem_append.1 hy).elim (H1.out y) (fun h => by rw [List.mem_singleton.1 h]; exact Hf.out), Below.trans H2.out (Below.mono hb2 H2.out.size)⟩
    case done =>
      rintro D ys W hD rfl ⟨h1, h2⟩ hK
      have e : (bk gs gs.length).find? (fun x => fitsG l who key attr kind x.2.g) = none := by
        rw [List.find?_eq_none]
        intro x hx
        rw [h1 x hx]; simp
      have hr : r = false := by rw [Hr.out, e]
      have hD5 : W.heap[B + 5]? = some (.cells #[.bool false] 4) := (h2.block _ (by omega)).trans B5.out
      have g5 := cell_at hD5
      have i5 := free_at hD5
      have HD5 := Lib.hid hD5
      have H2 := Lib.hid h2
      clear h1 h2 hD5 e Hr
      subst hr
      gi_wp2
      have hK' := (KeepsOthers.setCell W ⟨B + 5, 0, none⟩ (.bool false)).same D _ hK rfl
      refine ⟨by simp, .inl ⟨_, _, rfl, run_takeDeferred hK', ?_⟩⟩
      have hc5 := cell_kept (cell_at (set_at HD5.out (.bool false))) (grownBy_putObj' _ D (.deferred none)) (fun r e => by cases e; exact ⟨_, hK', rfl⟩)
      refine ⟨.bool false, by simp [results, Tryz.f11, go_sem, hc5], rfl, ?_⟩
      have hb := ((Hbel.out.trans (show Bel W0 W from H2.out))).set (p := ⟨B + 5, 0, none⟩) (by rw [← HBq.out]; exact Nat.le_add_right _ _) (.bool false)
      exact Below.grown hb (grownBy_putObj' _ D (.deferred none)) hb.size (fun k e => by cases e; rw [← HBq.out]; omega)
    case stop =>
      rintro D c pre W hD hS ⟨rfl, p, x, rfl, h3, h4, h5, h6⟩ hK
      obtain ⟨rest, hrest⟩ := hS
      have e : (bk gs gs.length).find? (fun x => fitsG l who key attr kind x.2.g) = some x := by
        rw [← hrest, List.append_assoc, List.find?_append, List.find?_eq_none.2 (fun y hy => by rw [h3 y hy]; simp)]
        simp [h4]
      have hr : r = !x.2.g.deny := by rw [Hr.out, e]
      have g5 := cell_at h5
      have H5 := Lib.hid h5
      have H6 := Lib.hid h6
      clear h3 h4 h5 h6 e Hr hrest
      subst hr
      gi_wp2
      refine ⟨by simp, .inl ⟨_, _, rfl, run_takeDeferred hK, ?_⟩⟩
      have hc5 := cell_kept g5 (grownBy_putObj' _ D (.deferred none)) (fun r e => by cases e; exact ⟨_, hK, rfl⟩)
      refine ⟨.bool (!x.2.g.deny), by simp [results, Tryz.f11, go_sem, hc5], rfl, ?_⟩
      exact Below.grown H6.out (grownBy_putObj' _ D (.deferred none)) H6.out.size (fun k e => by cases e; rw [← HBq.out]; omega)
end Go.Proofs.YtljeeehimcdmbaaGreatDoor
end
