/- The walk of acl.View. No condition. -/
import Derived.Test.YtljeeehimcdmbaaGreatDoorMGreatDoorVw1
import Derived.Test.YtljeeehimcdmbaaGreatDoorMGreatDoorAl8
import Derived.Deep.AppendLies
namespace Go.Proofs.YtljeeehimcdmbaaGreatDoor
open Go.RowKit Go.Wd Go.Dir Go.Shelf Go.Rq
open Go.Proofs.YtljeeehimcdmbaaGreatDoor.En (strC Vls Vls.none Vls.cells Pr Pr.none Pr.cells Hd.none hd_at pr_at vls_at)

def seen (l : List Attr) (gs : List SG) (who key : ByteArray) (kind : Int) (atr : List At) : List At := atr.filter fun a => allowedA l gs who key a.1 kind

/-- What out holds behind k rounds of the first loop. -/
def NRow (w : World) (base O : Nat) (k : Nat) (zs : List (Hd × List Pr)) : Prop := ∃ (x : Value) (us : List (Hd × List Pr)), w.heap[O]? = some (.cells #[x, .slice none 0 0] 42) ∧ w.ownsRow base 82 1 x k (us.flatMap fun z => z.1.cells) ∧ us.map Prod.snd = (zs.take k).map Prod.snd ∧ ∀ z ∈ us, RdnIs w z.1 z.2 ∧ Typ w z.1.val 85
/-- What stays: the parameters' and the result's blocks. -/
def Stay (w W : World) (B : Nat) (o0 o1 o2 : Obj) (base : Nat) : Prop := Bel w W ∧ W.heap[B]? = some o0 ∧ W.heap[B + 1]? = some o1 ∧ W.heap[B + 1 + 1]? = some o2 ∧ base ≤ W.heap.size
theorem Stay.bel {w W W' : World} {B : Nat} {o0 o1 o2 : Obj} {base : Nat} (h : Stay w W B o0 o1 o2 base) (hb : Bel W W') : Stay w W' B o0 o1 o2 base := ⟨h.1.trans hb, hb.at h.2.1, hb.at h.2.2.1, hb.at h.2.2.2.1, Nat.le_trans h.2.2.2.2 hb.le⟩
theorem Stay.grow {w W W' : World} {B : Nat} {o0 o1 o2 : Obj} {base : Nat} {row : Option Nat} (h : Stay w W B o0 o1 o2 base) (hB : B = w.heap.size) (hg : W.grownBy W' row) (hr : ∀ k, row = some k → B + 1 + 1 < k) : Stay w W' B o0 o1 o2 base := by
  have k : ∀ {j : Nat} {o : Obj}, j ≤ B + 1 + 1 → W.heap[j]? = some o → W'.heap[j]? = some o := fun hj ho => (hg.block _ (Array.getElem?_eq_some_iff.1 ho).1 (fun e => by have := hr _ e.symm; omega)).trans ho
  exact ⟨h.1.grown hg (fun j e => by have := hr j e; omega), k (by omega) h.2.1, k (by omega) h.2.2.1, k (by omega) h.2.2.2.1, Nat.le_trans h.2.2.2.2 hg.size⟩

theorem own_slice {w : World} {base m n : Nat} {e : TypeId} {v : Value} {xs : List Value} (h : w.ownsRow base e m v n xs) : ∃ q cap, v = .slice q n cap := by
  rcases h.2 with ⟨rfl, rfl⟩ | ⟨g, cap, cur, rfl, _⟩
  · exact ⟨_, _, rfl⟩
  · exact ⟨_, _, rfl⟩
theorem own_bel {w w' : World} {base m n : Nat} {e : TypeId} {v : Value} {xs : List Value} (h : w.ownsRow base e m v n xs) (hb : Bel w w') : w'.ownsRow base e m v n xs := h.kept (hb.grow Option.none) (by cases v.ownBlock <;> simp)
theorem sl_lit1 {w : World} {b : Nat} {v : Value} {t : TypeId} (h : w.heap[b]? = some (.cells #[v] t)) : Sl w (.slice (some ⟨b, 0, none⟩) 1 1) 1 1 [v] :=
  ⟨rfl, some ⟨b, 0, none⟩, 1, rfl, Nat.le_refl _, by decide, fun i hi => ⟨b, 0, rfl, by
    rw [Nat.zero_add]
    match i, hi with
    | 0, _ => exact cellk h 0 _ rfl⟩⟩
theorem sl_lit2 {w : World} {b : Nat} {u v : Value} {t : TypeId} (h : w.heap[b]? = some (.cells #[u, v] t)) : Sl w (.slice (some ⟨b, 0, none⟩) 1 1) 2 1 [u, v] :=
  ⟨rfl, some ⟨b, 0, none⟩, 1, rfl, Nat.le_refl _, by decide, fun i hi => ⟨b, 0, rfl, by
    rw [Nat.zero_add]
    match i, hi with
    | 0, _ => exact cellk h 0 _ rfl
    | 1, _ => exact cellk h 1 _ rfl⟩⟩
theorem out_kept {wr w4 w5 : World} {O n m : Nat} {e : TypeId} {x : Value} {xs : List Value} {a b : Value} {t : TypeId} (hO : wr.heap[O]? = some (.cells #[a, b] t)) (hown : wr.ownsRow (O + 1) e m x n xs) (hb4 : Bel wr w4) (hg : w4.grownBy w5 x.ownBlock) : w5.heap[O]? = some (.cells #[a, b] t) :=
  (hg.block O (Nat.lt_of_lt_of_le (Array.getElem?_eq_some_iff.1 hO).1 hb4.size) (fun e => by have := (hown.lt O e.symm).1; omega)).trans (hb4.at hO)
theorem out_kept9 {wr w4 w5 : World} {O n m base : Nat} {e : TypeId} {x : Value} {xs : List Value} {a b : Value} {t : TypeId} (hO : wr.heap[O]? = some (.cells #[a, b] t)) (hown : wr.ownsRow base e m x n xs) (hOb : O < base) (hb4 : Bel wr w4) (hg : w4.grownBy w5 x.ownBlock) : w5.heap[O]? = some (.cells #[a, b] t) :=
  (hg.block O (Nat.lt_of_lt_of_le (Array.getElem?_eq_some_iff.1 hO).1 hb4.size) (fun e => by have := (hown.lt O e.symm).1; omega)).trans (hb4.at hO)
theorem nrow_next {w wr w4 w5 : World} {B O k : Nat} {x v' : Value} {us zs : List (Hd × List Pr)} {h' : Hd} {z : Hd × List Pr} {o0 o1 o2 : Obj}
    (hB : B = w.heap.size) (hOB : B + 1 + 1 < O) (hst : Stay w wr B o0 o1 o2 (O + 1)) (hO : wr.heap[O]? = some (.cells #[x, .slice none 0 0] 42)) (hown : wr.ownsRow (O + 1) 82 1 x k (us.flatMap fun z => z.1.cells))
    (hmap : us.map Prod.snd = (zs.take k).map Prod.snd) (hus : ∀ z ∈ us, RdnIs wr z.1 z.2 ∧ Typ wr z.1.val 85) (hT : zs.take (k + 1) = zs.take k ++ [z])
    (hb4 : Bel wr w4) (hr4 : RdnIs w4 h' z.2) (ht4 : Typ w4 h'.val 85) (hown' : w5.ownsRow (O + 1) 82 1 v' (k + 1) ((us.flatMap fun z => z.1.cells) ++ [h'.val])) (hg : w4.grownBy w5 x.ownBlock) :
    NRow (w5.setCell ⟨O, 0, none⟩ v') (O + 1) O (k + 1) zs ∧ Stay w (w5.setCell ⟨O, 0, none⟩ v') B o0 o1 o2 (O + 1) := by
  have hO5 := out_kept hO hown hb4 hg
  have hoth := Other.own (T' := 85) (own_bel hown hb4) (by decide)
  have hg2 := grown_set w5 ⟨O, 0, none⟩ v'
  have hoth2 := Other.cells (T := 85) hO5 (by decide)
  refine ⟨⟨v', us ++ [(h', z.2)], set_o2 hO5 _, ?_, ?_, ?_⟩, ?_⟩
  · rw [List.flatMap_append]
    exact ownsRow_setCell_below hown' (by simp) v'
  · rw [List.map_append, hmap, hT, List.map_append]; rfl
  · intro u hu
    rcases List.mem_append.1 hu with hu | hu
    · obtain ⟨⟨a1, a2⟩, a3⟩ := hus u hu
      have a2 := a2.bel hb4
      have a3 : Typ w4 u.1.val 85 := a3.grow (hb4.grow Option.none) (Other.none _ _)
      exact ⟨⟨a1, slGrow (slGrow a2 a3 hg hoth) (a3.grow hg hoth) hg2 hoth2⟩, (a3.grow hg hoth).grow hg2 hoth2⟩
    · rw [List.mem_singleton.1 hu]
      exact ⟨⟨hr4.1, slGrow (slGrow hr4.2 ht4 hg hoth) (ht4.grow hg hoth) hg2 hoth2⟩, (ht4.grow hg hoth).grow hg2 hoth2⟩
  · exact ((hst.bel hb4).grow hB hg (fun j e => by have := (hown.lt j e).1; omega)).grow hB hg2 (fun j e => by cases e; exact hOB)

def NameT (w : World) (v : Value) (us : List (Hd × List Pr)) : Prop := Sl w v 1 us.length (us.flatMap fun z => z.1.cells) ∧ Typ w v 82 ∧ ∀ z ∈ us, RdnIs w z.1 z.2 ∧ Typ w z.1.val 85
theorem NameT.grow {w w' : World} {v : Value} {us : List (Hd × List Pr)} {row : Option Nat} (h : NameT w v us) (hg : w.grownBy w' row) (h1 : Other w 82 row) (h2 : Other w 85 row) : NameT w' v us :=
  ⟨slGrow h.1 h.2.1 hg h1, h.2.1.grow hg h1, fun z hz => ⟨⟨(h.2.2 z hz).1.1, slGrow (h.2.2 z hz).1.2 (h.2.2 z hz).2 hg h2⟩, (h.2.2 z hz).2.grow hg h2⟩⟩
/-- What out holds behind so many rounds of the second loop. -/
def ARow (W9 w : World) (nm : Value) (O : Nat) (l : List At) : Prop := W9.grownBy w (some O) ∧ ∃ (y : Value) (us : List (Vls × List ByteArray)), w.heap[O]? = some (.cells #[nm, y] 42) ∧ w.ownsRow W9.heap.size 59 2 y us.length (us.flatMap fun z => z.1.cells) ∧ us.map (fun z => (z.1.name, z.2)) = l ∧ ∀ z ∈ us, TxtIs w z.1.vs z.2 ∧ Typ w z.1.vs.val 9
theorem ARow.bel {W9 w w' : World} {nm : Value} {O : Nat} {l : List At} (h : ARow W9 w nm O l) (hb : Bel w w') : ARow W9 w' nm O l := by
  obtain ⟨hg, y, us, h1, h2, h3, h4⟩ := h
  exact ⟨⟨hb.os.trans hg.os, hb.tape.trans hg.tape, hb.output.trans hg.output, Nat.le_trans hg.size hb.size, fun k hk hne => (hb.block k (Nat.lt_of_lt_of_le hk hg.size)).trans (hg.block k hk hne)⟩, y, us, hb.at h1, own_bel h2 hb, h3, fun z hz => ⟨⟨(h4 z hz).1.1, (h4 z hz).1.2.bel hb⟩, (h4 z hz).2.grow (hb.grow Option.none) (Other.none _ _)⟩⟩
theorem arow_next {W9 w wr w4 w5 : World} {B O : Nat} {nm y v' : Value} {us : List (Vls × List ByteArray)} {nam : ByteArray} {ss : List ByteArray} {h' : Hd} {o0 o1 o2 : Obj} {l : List At}
    (hB : B = w.heap.size) (hOB : B + 1 + 1 < O) (hO9 : O < W9.heap.size) (hst : Stay w wr B o0 o1 o2 W9.heap.size) (hg9 : W9.grownBy wr (some O)) (hO : wr.heap[O]? = some (.cells #[nm, y] 42)) (hown : wr.ownsRow W9.heap.size 59 2 y us.length (us.flatMap fun z => z.1.cells))
    (hmap : us.map (fun z => (z.1.name, z.2)) = l) (hus : ∀ z ∈ us, TxtIs wr z.1.vs z.2 ∧ Typ wr z.1.vs.val 9)
    (hb4 : Bel wr w4) (hr4 : TxtIs w4 h' ss) (ht4 : Typ w4 h'.val 9) (hown' : w5.ownsRow W9.heap.size 59 2 v' (us.length + 1) ((us.flatMap fun z => z.1.cells) ++ [.string nam, h'.val])) (hg : w4.grownBy w5 y.ownBlock) :
    ARow W9 (w5.setCell ⟨O, 1, none⟩ v') nm O (l ++ [((nam, ss) : At)]) ∧ Stay w (w5.setCell ⟨O, 1, none⟩ v') B o0 o1 o2 W9.heap.size := by
  have hO5 : w5.heap[O]? = some (.cells #[nm, y] 42) := (hg.block O (Nat.lt_of_lt_of_le (Array.getElem?_eq_some_iff.1 hO).1 hb4.size) (fun e => by have := (hown.lt O e.symm).1; omega)).trans (hb4.at hO)
  have hoth := Other.own (T' := 9) (own_bel hown hb4) (by decide)
  have hg2 := grown_set w5 ⟨O, 1, none⟩ v'
  have hoth2 := Other.cells (T := 9) hO5 (by decide)
  refine ⟨⟨⟨hg2.os.trans (hg.os.trans (hb4.os.trans hg9.os)), hg2.tape.trans (hg.tape.trans (hb4.tape.trans hg9.tape)), hg2.output.trans (hg.output.trans (hb4.output.trans hg9.output)), Nat.le_trans hg9.size (Nat.le_trans hb4.size (Nat.le_trans hg.size hg2.size)), fun k hk hne => ?_⟩, v', us ++ [(⟨nam, h'⟩, ss)], set_o3 hO5 _, ?_, ?_, ?_⟩, ?_⟩
  · have k1 := Nat.lt_of_lt_of_le hk hg9.size
    have k2 := Nat.lt_of_lt_of_le k1 hb4.size
    exact (hg2.block k (Nat.lt_of_lt_of_le k2 hg.size) hne).trans ((hg.block k k2 (fun e => by have := (hown.lt k e.symm).1; omega)).trans ((hb4.block k k1).trans (hg9.block k hk hne)))
  · rw [List.flatMap_append, List.length_append]
    exact ownsRow_setCell_below hown' (by simpa using hO9) v'
  · rw [List.map_append, hmap]; rfl
  · intro u hu
    rcases List.mem_append.1 hu with hu | hu
    · obtain ⟨⟨a1, a2⟩, a3⟩ := hus u hu
      have a2 := a2.bel hb4
      have a3 : Typ w4 u.1.vs.val 9 := a3.grow (hb4.grow Option.none) (Other.none _ _)
      exact ⟨⟨a1, slGrow (slGrow a2 a3 hg hoth) (a3.grow hg hoth) hg2 hoth2⟩, (a3.grow hg hoth).grow hg2 hoth2⟩
    · rw [List.mem_singleton.1 hu]
      exact ⟨⟨hr4.1, slGrow (slGrow hr4.2 ht4 hg hoth) (ht4.grow hg hoth) hg2 hoth2⟩, (ht4.grow hg hoth).grow hg2 hoth2⟩
  · exact ((hst.bel hb4).grow hB hg (fun j e => by have := (hown.lt j e).1; omega)).grow hB hg2 (fun j e => by cases e; exact hOB)

set_option maxRecDepth 100000 in
set_option maxHeartbeats 4000000 in
theorem view_any (l : List Attr) (gs : List SG) (who key : ByteArray) (kind : Int) (v gv : Value) (q2 : Option Addr) (m2 cap2 : Nat) (nh ah : Hd) (ns : List (List Pr)) (atr : List At) (w : World)
    (hs : Sl w v 6 l.length (attrCells l)) (hl : l.length < 100000) (ha : ∀ a ∈ l, shortA a) (hk : key.size ≤ 1000000) (hg : Sl w gv 7 gs.length (grantCells (sgs gs))) (hgl : gs.length < 1000000)
    (hn : NameIs w nh ns) (hna : AttrsIs w ah atr) (s1 : ns.length ≤ 1000) (s2 : ∀ p ∈ ns, p.length ≤ 1000) (s3 : atr.length ≤ 1000) (s4 : ∀ a ∈ atr, a.2.length ≤ 1000) :
    Calls Tryz.prog 15 #[.agg #[v, .slice q2 m2 cap2], gv, .string who, .string key, .agg #[nh.val, ah.val], .int .i64 kind] w fun e w' =>
      ∃ nh' ah' : Hd, e = .returned (.tuple #[.agg #[nh'.val, ah'.val], .bool (allowedA l gs who key ⟨#[]⟩ kind)]) ∧ Bel w w' ∧
        NameIs w' nh' (if allowedA l gs who key ⟨#[]⟩ kind then ns else []) ∧ AttrsIs w' ah' (if allowedA l gs who key ⟨#[]⟩ kind then seen l gs who key kind atr else []) := by
  have HW := fun attr w' (h : Bel w w') => Lib.hid (allowed_any l gs who key attr kind v gv q2 m2 cap2 w' (hs.bel h) hl ha hk (hg.bel h) hgl)
  obtain ⟨q, cap, rfl⟩ : ∃ q cap, v = .slice q l.length cap := by obtain ⟨_, q, cap, h, _⟩ := hs; exact ⟨q, cap, h⟩
  obtain ⟨qg, capg, rfl⟩ : ∃ q cap, gv = .slice q gs.length cap := by obtain ⟨_, q, cap, h, _⟩ := hg; exact ⟨q, cap, h⟩
  clear hs hl ha hk hg hgl
  obtain ⟨nq, nn, nc⟩ := nh
  obtain ⟨aq, an, ac⟩ := ah
  obtain ⟨zs, rfl, e1, hz2, hz3⟩ := hn
  obtain rfl : nn = zs.length := e1
  obtain ⟨ys, rfl, e2, hy2, hy3⟩ := hna
  obtain rfl : an = ys.length := e2
  have HW0 := HW ⟨#[]⟩
  generalize allowedA l gs who key ⟨#[]⟩ kind = ok at HW0 ⊢
  unfold Hd.val
  dsimp only
  have Hz2 := Lib.hid hz2
  have Hz3 := Lib.hid hz3
  have Hy2 := Lib.hid hy2
  have Hy3 := Lib.hid hy3
  have S1 := Lib.hid s1
  have S2 := Lib.hid s2
  have S3 := Lib.hid s3
  have S4 := Lib.hid s4
  clear hz2 hz3 hy2 hy3 s1 s2 s3 s4
  go_enter Tryz.func15, Tryz.ntmps15
  go_upto_region 1 with fail
  have hbel := (((Bel.refl w).alloc (.cells #[.slice q l.length cap, .slice q2 m2 cap2] 25)).alloc (.cells #[.slice nq zs.length nc, .slice aq ys.length ac] 42)).alloc (.cells #[.slice none 0 0, .slice none 0 0] 42)
  have b0 := old_at (old_at (new_at w (.cells #[.slice q l.length cap, .slice q2 m2 cap2] 25)) (.cells #[.slice nq zs.length nc, .slice aq ys.length ac] 42)) (.cells #[.slice none 0 0, .slice none 0 0] 42)
  have b1 := old_at (new_at (w.alloc (.cells #[.slice q l.length cap, .slice q2 m2 cap2] 25)) (.cells #[.slice nq zs.length nc, .slice aq ys.length ac] 42)) (.cells #[.slice none 0 0, .slice none 0 0] 42)
  have b2 := new_at ((w.alloc (.cells #[.slice q l.length cap, .slice q2 m2 cap2] 25)).alloc (.cells #[.slice nq zs.length nc, .slice aq ys.length ac] 42)) (.cells #[.slice none 0 0, .slice none 0 0] 42)
  have hsz : (((w.alloc (.cells #[.slice q l.length cap, .slice q2 m2 cap2] 25)).alloc (.cells #[.slice nq zs.length nc, .slice aq ys.length ac] 42)).alloc (.cells #[.slice none 0 0, .slice none 0 0] 42)).heap.size = w.heap.size + 3 := by simp only [World.size_alloc]
  simp only [World.size_alloc] at b0 b1 b2 ⊢
  generalize hW0 : World.alloc (World.alloc (World.alloc _ _) _) _ = W0 at *
  clear hW0
  obtain ⟨B, hBq⟩ : ∃ B, B = w.heap.size := ⟨_, rfl⟩
  rw [← hBq] at hsz b0 b1 b2 ⊢
  have HBq := Lib.hid hBq
  have Hbel := Lib.hid hbel
  have B0 := Lib.hid b0
  have B1 := Lib.hid b1
  have B2 := Lib.hid b2
  have Hsz := Lib.hid hsz
  have c0 : W0.cell? ⟨B, 0, none⟩ = some (.slice q l.length cap) := cellk b0 0 _ rfl
  have c1 : W0.cell? ⟨B, 1, none⟩ = some (.slice q2 m2 cap2) := cellk b0 1 _ rfl
  clear b0 b1 b2 hbel hBq hsz
  cases ok with
  | false =>
    clear HW Hz2 Hz3 Hy2 Hy3 S1 S2 S3 S4
    go_wp2_with (go_at_call 11; refine (HW0 _ Hbel.out).out.mono ?_; rintro e w1 ⟨rfl, hb1⟩; have d2 := hb1.at B2.out; have f0 := freek d2 0; have f1 := freek d2 1; have g0 : w1.cell? ⟨B + 1 + 1, 0, none⟩ = some (.slice none 0 0) := cellk d2 0 _ rfl; have g1 : w1.cell? ⟨B + 1 + 1, 1, none⟩ = some (.slice none 0 0) := cellk d2 1 _ rfl)
    have d3 := set_o3 (set_o2 d2 (.slice none 0 0)) (.slice none 0 0)
    have hbb := (((Hbel.out.trans hb1).set (p := ⟨B + 1 + 1, 0, none⟩) (by have := HBq.out; simp; omega) (.slice none 0 0)).set (p := ⟨B + 1 + 1, 1, none⟩) (by have := HBq.out; simp; omega) (.slice none 0 0))
    generalize World.setCell (World.setCell w1 _ _) _ _ = W3 at *
    have k0 : W3.cell? ⟨B + 1 + 1, 0, none⟩ = some (.slice none 0 0) := cellk d3 0 _ rfl
    have k1 : W3.cell? ⟨B + 1 + 1, 1, none⟩ = some (.slice none 0 0) := cellk d3 1 _ rfl
    refine bodyPost_ret (by simp [results, Tryz.results15, go_sem, k0, k1]; try rfl) rfl ?_
    exact ⟨(Option.none, 0, 0), (Option.none, 0, 0), rfl, hbb, NameIs.nil _, AttrsIs.nil _⟩
  | true =>
  go_upto_region 4 with (go_at_call 11; refine (HW0 _ Hbel.out).out.mono ?_; rintro e w1 ⟨rfl, hb1⟩)
  have hst : Stay w (w1.alloc (.cells #[.slice none 0 0, .slice none 0 0] 42)) B _ _ _ (w1.heap.size + 1) := ⟨(Hbel.out.trans hb1).alloc _, (hb1.alloc _).at B0.out, (hb1.alloc _).at B1.out, (hb1.alloc _).at B2.out, by simp⟩
  have hO := new_at w1 (.cells #[.slice none 0 0, .slice none 0 0] 42)
  have hOB : B + 1 + 1 < w1.heap.size := by have := hb1.size; have := Hsz.out; omega
  generalize hW2 : w1.alloc _ = W2 at *
  clear hW2
  generalize w1.heap.size = O at *
  clear B0 B1 B2 Hbel Hsz hb1 HW0
  clear w1
  have Hst := Lib.hid hst
  have HO := Lib.hid hO
  have HOB := Lib.hid hOB
  obtain ⟨hst0, e0, e1, e2, hbase⟩ := hst
  have y0 : W2.cell? ⟨B + 1, 0, none⟩ = some (.slice nq zs.length nc) := cellk e1 0 _ rfl
  clear e0 e1 e2 hbase hst0 hO hOB
  go_wp2
  go_loopw [30] (fun i wr => ∃ k : Nat, k ≤ zs.length ∧ i = .int .i64 k ∧ NRow wr (O + 1) O k zs ∧ Stay w wr B (.cells #[.slice q l.length cap, .slice q2 m2 cap2] 25) (.cells #[.slice nq zs.length nc, .slice aq ys.length ac] 42) (.cells #[.slice none 0 0, .slice none 0 0] 42) (O + 1)) (fun i _ => zs.length - (intOf i).toNat)
  case atStart => exact ⟨0, Nat.zero_le _, rfl, ⟨_, [], HO.out, World.ownsRow_nil _ _ _ _, rfl, fun z hz => by cases hz⟩, Hst.out⟩
  case round =>
    obtain ⟨k, hk, rfl, hrow, hst⟩ := hrel
    by_cases hlt : k < zs.length
    · obtain ⟨bb, off, cap', e, r0⟩ := hp_at (Hz2.out.bel hst.1) k hlt
      cases e
      have hrd := (Hz3.out _ (En.getD_mem zs (Hd.none, []) k hlt)).bel hst.1
      have HT := Lib.hid (take_snoc zs (Hd.none, []) k hlt)
      have hps := S2.out _ (List.mem_map_of_mem (En.getD_mem zs (Hd.none, []) k hlt))
      generalize zs.getD k (Hd.none, []) = z at *
      obtain ⟨⟨zq, zl, zc⟩, ps⟩ := z
      dsimp only [Hd.val] at r0 hrd hps
      have HC := fun w' (h : Bel wr w') => Lib.hid (cloneR_any (zq, zl, zc) ps w' (hrd.bel h) hps)
      dsimp only [Hd.val] at HC
      obtain ⟨x, us, hO, hown, hmap, hus⟩ := hrow
      have HO := Lib.hid hO
      have Hown := Lib.hid hown
      have Hmap := Lib.hid hmap
      have Hus := Lib.hid hus
      have Hst := Lib.hid hst
      have HS1 := S1.out
      rw [List.length_map] at HS1
      clear hO hown hmap hus hst hrd hps
      have i0' : (0 : Int) ≤ (k : Int) := Int.natCast_nonneg _
      have i1 : (k : Int) < (zs.length : Int) := by omega
      have CO : ∀ W, Bel wr W → W.cell? ⟨O, 0, none⟩ = some x ∧ W.frozen? ⟨O, 0, none⟩ = false := fun W h => ⟨cellk (h.at HO.out) 0 _ rfl, freek (h.at HO.out) 0⟩
      have x0 := (CO _ (Bel.refl _)).1
      have x1 := (CO _ (Bel.drew (Bel.refl _))).1
      have HbW := Lib.hid Hst.out.1
      go_upto_region 7 with fail
      go_region_law
        (first
          | (go_simp; go_at_call 28; refine (HC _ (by repeat first | assumption | exact Bel.refl _ | refine Bel.alloc ?_ _ | refine Bel.drew ?_)).out.mono ?_; rintro e w3 ⟨h', rfl, hr3, hb3', ht3⟩; have hb3 : Bel wr w3 := Bel.trans (by repeat first | assumption | exact Bel.refl _ | refine Bel.alloc ?_ _ | refine Bel.drew ?_) hb3'; have hbb3 := Bel.trans HbW.out hb3; have x3 := (CO _ hb3).1; have x4 := fun o => (CO (w3.alloc o) (hb3.alloc o)).1)
          | (refine step_appG appNm w (O + 1) (by rfl) _ _ (by rfl) x (.slice (some ⟨_, 0, none⟩) 1 1) k 1 (us.flatMap fun z => z.1.cells) [.slice h'.1 h'.2.1 h'.2.2] (by rfl) (by rfl) (by repeat first | assumption | exact Bel.refl _ | refine Bel.alloc ?_ _ | refine Bel.drew ?_) (by have := HBq.out; have := HOB.out; omega) (by have := Hst.out.2.2.2.2; have := hb3.size; simp; omega) (own_bel Hown.out (by repeat first | assumption | exact Bel.refl _ | refine Bel.alloc ?_ _ | refine Bel.drew ?_)) (sl_lit1 (new_at _ _)) (by simp [Value.oneCell']) (by omega) ?_; intro v5 w5 hown5 hgrow5 hb5; obtain ⟨q5, cap5, rfl⟩ := own_slice hown5; have hO5 := out_kept HO.out Hown.out (hb3.alloc _) hgrow5; have s0 : w5.cell? ⟨O, 0, none⟩ = some x := cellk hO5 0 _ rfl; have s1 := freek hO5 0))
      all_goals
        have hN := nrow_next HBq.out HOB.out Hst.out HO.out Hown.out Hmap.out Hus.out HT.out (hb3.alloc _) (hr3.bel ((Bel.refl _).alloc _)) (Typ.grow ht3 (((Bel.refl _).alloc _).grow Option.none) (Other.none _ _)) hown5 hgrow5
        generalize World.setCell w5 _ _ = W6 at hN ⊢
        clear hown5 hgrow5 hb5 s0 s1 hO5 x4 x3 hr3 ht3 hb3' hb3 hbb3 HO Hown Hmap Hus CO x0 x1 HC HbW r0
        go_wp2
        go_roundw
        case rel => exact ⟨k + 1, by omega, by go_num, hN.1, hN.2⟩
        case measure => simp [intOf]; omega
    · have e : k = zs.length := by omega
      subst e
      obtain ⟨nm, us, hO, hown, hmap, hus⟩ := hrow
      rw [List.take_length] at hmap
      obtain ⟨nq', ncap, rfl⟩ := own_slice hown
      have hul : us.length = zs.length := by have := congrArg List.length hmap; simpa using this
      have hnt : NameT wr (.slice nq' zs.length ncap) us := ⟨by have := Sl.own hown; rw [← hul] at this ⊢; exact this, Typ.own hown, hus⟩
      have Hnt := Lib.hid hnt
      have Hmap := Lib.hid hmap
      have Hst2 := Lib.hid (show Stay w wr B _ _ _ wr.heap.size from ⟨hst.1, hst.2.1, hst.2.2.1, hst.2.2.2.1, Nat.le_refl _⟩)
      have HOs := Lib.hid (Array.getElem?_eq_some_iff.1 hO).1
      have hO0 := Lib.hid hO
      have HA0 := Lib.hid (show ARow wr wr (.slice nq' zs.length ncap) O [] from ⟨(Bel.refl _).grow _, _, [], hO, World.ownsRow_nil _ _ _ _, rfl, fun z hz => by cases hz⟩)
      have e0 : wr.cell? ⟨B + 1, 1, none⟩ = some (.slice aq ys.length ac) := cellk hst.2.2.1 1 _ rfl
      clear hown hus hnt hmap hO hst Hst
      rename World => W9
      obtain ⟨FL, hFL⟩ : ∃ FL : Nat → List At, FL = fun k => seen l gs who key kind ((ys.take k).map fun z => (z.1.name, z.2)) := ⟨_, rfl⟩
      have HFL := Lib.hid hFL
      have HF0 := Lib.hid (show FL 0 = [] by rw [hFL]; rfl)
      have HFn := Lib.hid (show FL ys.length = seen l gs who key kind (ys.map fun z => (z.1.name, z.2)) by rw [hFL]; simp only [List.take_length])
      have hfs : ∀ k, k < ys.length → FL (k + 1) = FL k ++ if allowedA l gs who key (ys.getD k (Vls.none, [])).1.name kind then [(((ys.getD k (Vls.none, [])).1.name, (ys.getD k (Vls.none, [])).2) : At)] else [] := fun k hk => by
        rw [hFL]
        show seen l gs who key kind _ = seen l gs who key kind _ ++ _
        rw [take_snoc ys (Vls.none, []) k hk, List.map_append]
        unfold seen
        rw [List.filter_append, List.map_cons, List.map_nil, List.filter_cons, List.filter_nil]
      have HFs := Lib.hid hfs
      have hfl : ∀ k, (FL k).length ≤ ys.length := fun k => by
        rw [hFL]
        refine Nat.le_trans (List.length_filter_le _ _) ?_
        rw [List.length_map, List.length_take]
        exact Nat.min_le_right _ _
      have HFl := Lib.hid hfl
      clear hfl
      clear hfs hFL HFL
      go_wp2
      go_loopw [45] (fun i wr => ∃ k : Nat, k ≤ ys.length ∧ i = .int .i64 k ∧ ARow W9 wr (.slice nq' zs.length ncap) O (FL k) ∧ Stay w wr B (.cells #[.slice q l.length cap, .slice q2 m2 cap2] 25) (.cells #[.slice nq zs.length nc, .slice aq ys.length ac] 42) (.cells #[.slice none 0 0, .slice none 0 0] 42) W9.heap.size) (fun i _ => ys.length - (intOf i).toNat)
      case atStart => exact ⟨0, Nat.zero_le _, rfl, by rw [HF0.out]; exact HA0.out, Hst2.out⟩
      case round =>
        obtain ⟨k, hk, rfl, hrow, hst⟩ := hrel
        by_cases hlt : k < ys.length
        · obtain ⟨bb, off, cap', e, r0, r1⟩ := vp_at (Hy2.out.bel hst.1) k hlt
          cases e
          have htx := (Hy3.out _ (En.getD_mem ys (Vls.none, []) k hlt)).bel hst.1
          have HT := Lib.hid (HFs.out k hlt)
          have hps := S4.out _ (List.mem_map_of_mem (f := fun z : Vls × List ByteArray => ((z.1.name, z.2) : At)) (En.getD_mem ys (Vls.none, []) k hlt))
          generalize ys.getD k (Vls.none, []) = z at *
          obtain ⟨⟨zn, ⟨zq, zl, zc⟩⟩, ss⟩ := z
          dsimp only [Hd.val] at r0 r1 htx hps
          have HC := fun w' (h : Bel wr w') => Lib.hid (cloneT_any (zq, zl, zc) ss w' (htx.bel h) hps)
          dsimp only [Hd.val] at HC
          have HA := HW zn
          obtain ⟨hg9, y, us2, hO, hown, hmap, hus⟩ := hrow
          obtain ⟨yq, ycap, rfl⟩ := own_slice hown
          have HG9 := Lib.hid hg9
          have HO := Lib.hid hO
          have Hown := Lib.hid hown
          have Hmap2 := Lib.hid hmap
          have Hus := Lib.hid hus
          have Hst := Lib.hid hst
          have i0' : (0 : Int) ≤ (k : Int) := Int.natCast_nonneg _
          have i1 : (k : Int) < (ys.length : Int) := by omega
          have S0 := fun (W : World) (h : Bel wr W) => Lib.hid (show W.cell? ⟨B, 0, none⟩ = some (.slice q l.length cap) ∧ W.cell? ⟨B, 1, none⟩ = some (.slice q2 m2 cap2) from ⟨cellk (h.at hst.2.1) 0 _ rfl, cellk (h.at hst.2.1) 1 _ rfl⟩)
          have HbW9 := Lib.hid Hst2.out.1.size
          have hul2 : us2.length ≤ 1000 := by
            have e1 : us2.length = (FL k).length := by rw [← hmap, List.length_map]
            have e2 : (FL k).length ≤ ys.length := HFl.out k
            have e3 := S3.out
            rw [List.length_map] at e3
            omega
          have Hul := Lib.hid hul2
          clear hO hown hmap hus hst htx hg9 hul2
          generalize allowedA l gs who key zn kind = al at HA HT
          have HR := Lib.hid (show ARow W9 wr (.slice nq' zs.length ncap) O (FL k) from ⟨HG9.out, _, us2, HO.out, Hown.out, Hmap2.out, Hus.out⟩)
          go_upto_region 12 with fail
          have hbQ := (Bel.refl wr).alloc (.cells #[.string zn, .slice zq zl zc] 59)
          have hQ := new_at wr (.cells #[.string zn, .slice zq zl zc] 59)
          have hQs : wr.heap.size + 1 = (wr.alloc (.cells #[.string zn, .slice zq zl zc] 59)).heap.size := by simp
          generalize hW3 : wr.alloc _ = W3 at *
          clear hW3
          obtain ⟨m0, m1⟩ := (S0 _ hbQ).out
          obtain ⟨Q, hQq⟩ : ∃ Q, Q = wr.heap.size := ⟨_, rfl⟩
          have HQq := Lib.hid hQq
          have HQO := Lib.hid (show Q ≠ O from fun e => by have h1 := (Array.getElem?_eq_some_iff.1 HO.out).1; rw [hQq] at e; omega)
          have Hlt := Lib.hid hlt
          rw [← hQq] at hQ hQs ⊢
          have n0 : W3.cell? ⟨Q, 0, none⟩ = some (.string zn) := cellk hQ 0 _ rfl
          have n1 : W3.cell? ⟨Q, 1, none⟩ = some (.slice zq zl zc) := cellk hQ 1 _ rfl
          have HQ2 := Lib.hid hQ
          have HbQ := Lib.hid hbQ
          clear hQ hQs hQq hbQ r0 r1
          have HS3 := S3.out
          rw [List.length_map] at HS3
          have j0 : (0 : Int) ≤ (k : Int) := Int.natCast_nonneg _
          have j1 : (k : Int) < (ys.length : Int) := by have := Hlt.out; omega
          cases al with
          | false =>
            go_wp2_with (go_at_call 11; refine (HA _ (Hst.out.1.trans HbQ.out)).out.mono ?_; rintro e w4 ⟨rfl, hb4⟩)
            have hR := HR.out.bel (HbQ.out.trans hb4)
            have hS := Hst.out.bel (HbQ.out.trans hb4)
            clear HR Hst HG9 HO Hown Hmap2 Hus S0 HC HQ2 HA
            go_wp2
            go_roundw
            case rel => exact ⟨k + 1, by have := Hlt.out; omega, by go_num, by rw [HT.out]; simpa using hR, hS⟩
            case measure => have := Hlt.out; simp [intOf]; omega
          | true =>
            go_upto_region 13 with (go_at_call 11; refine (HA _ (Hst.out.1.trans HbQ.out)).out.mono ?_; rintro e w4 ⟨rfl, hb4⟩)
            have HbW := Lib.hid (HbQ.out.trans hb4)
            have CO : ∀ W, Bel w4 W → W.cell? ⟨O, 1, none⟩ = some (.slice yq us2.length ycap) ∧ W.cell? ⟨Q, 0, none⟩ = some (.string zn) ∧ W.cell? ⟨Q, 1, none⟩ = some (.slice zq zl zc) := fun W h => ⟨cellk ((HbW.out.trans h).at HO.out) 1 _ rfl, cellk ((hb4.trans h).at HQ2.out) 0 _ rfl, cellk ((hb4.trans h).at HQ2.out) 1 _ rfl⟩
            clear m0 m1 n0 n1 S0 HA HW HR
            obtain ⟨x0, x1, x2⟩ := CO _ (Bel.refl _)
            obtain ⟨x3, x4, x5⟩ := CO _ (Bel.drew (Bel.refl _))
            have Hb4 := Lib.hid hb4
            clear hb4
            go_region_law
              (first
                | (go_simp; go_at_call 29; refine (HC _ (by repeat first | assumption | exact HbW.out | exact HbW.out.trans (Bel.drew (Bel.refl _)) | refine Bel.alloc ?_ _ | refine Bel.drew ?_)).out.mono ?_; rintro e w5 ⟨h', rfl, hr5, hb5', ht5⟩; have hb5 : Bel w4 w5 := Bel.trans (by repeat first | assumption | exact Bel.refl _ | refine Bel.alloc ?_ _ | refine Bel.drew ?_) hb5'; obtain ⟨z1, z3, z5⟩ := CO _ hb5; have z2 := fun o => (CO _ (hb5.alloc o)).1; have z4 := fun o => (CO _ (hb5.alloc o)).2.1; have z6 := fun o => (CO _ (hb5.alloc o)).2.2; have hbw5 := Hst.out.1.trans (HbW.out.trans hb5))
                | (refine step_appG appVs w W9.heap.size (by rfl) _ _ (by rfl) (.slice yq us2.length ycap) (.slice (some ⟨_, 0, none⟩) 1 1) us2.length 1 (us2.flatMap fun z => z.1.cells) [.string zn, .slice h'.1 h'.2.1 h'.2.2] (by rfl) (by rfl) (by repeat first | assumption | exact Bel.refl _ | refine Bel.alloc ?_ _ | refine Bel.drew ?_) (Hst.out.1.size |> fun h => by have := HG9.out.size; have := HbW9.out; omega) (by have := Hst.out.2.2.2.2; have := (HbW.out.trans hb5).size; simp; omega) (own_bel Hown.out (by repeat first | assumption | exact HbW.out.trans hb5 | refine Bel.alloc ?_ _ | refine Bel.drew ?_)) (sl_lit2 (new_at _ _)) (by simp [Value.oneCell']) (by have := Hul.out; omega) ?_; intro v6 w6 hown6 hgrow6 hb6; obtain ⟨q6, cap6, rfl⟩ := own_slice hown6; have hO6 := out_kept9 HO.out Hown.out HOs.out ((HbW.out.trans hb5).alloc _) hgrow6; have s0 : w6.cell? ⟨O, 1, none⟩ = some (.slice yq us2.length ycap) := cellk hO6 1 _ rfl; have s1 := freek hO6 1; have hQ6 : w6.heap[Q]? = some (.cells #[.string zn, .slice zq zl zc] 59) := (hgrow6.block Q (Nat.lt_of_lt_of_le (Array.getElem?_eq_some_iff.1 ((Hb4.out.trans hb5).at HQ2.out)).1 (by simp)) (fun e => by have h1 := (Hown.out.lt Q e.symm).2; have h2 := HQq.out; omega)).trans (((Hb4.out.trans hb5).alloc _).at HQ2.out); have s2 : w6.cell? ⟨Q, 0, none⟩ = some (.string zn) ∧ w6.cell? ⟨Q, 1, none⟩ = some (.slice zq zl zc) := ⟨cellk hQ6 0 _ rfl, cellk hQ6 1 _ rfl⟩; have s3 : ∀ u, (w6.setCell ⟨O, 1, none⟩ u).cell? ⟨Q, 0, none⟩ = some (.string zn) ∧ (w6.setCell ⟨O, 1, none⟩ u).cell? ⟨Q, 1, none⟩ = some (.slice zq zl zc) := fun u => ⟨cellk (set_other hQ6 HQO.out 1 u) 0 _ rfl, cellk (set_other hQ6 HQO.out 1 u) 1 _ rfl⟩))
            all_goals
              have hN := arow_next (nam := zn) HBq.out HOB.out HOs.out Hst.out HG9.out HO.out Hown.out Hmap2.out Hus.out ((HbW.out.trans hb5).alloc _) (hr5.bel ((Bel.refl _).alloc _)) (Typ.grow ht5 (((Bel.refl _).alloc _).grow Option.none) (Other.none _ _)) hown6 hgrow6
              generalize World.setCell w6 _ _ = W7 at hN ⊢
              clear hown6 hgrow6 hb6 s0 s1 s2 s3 hQ6 hO6 z1 z2 z3 z4 z5 z6 hr5 ht5 hb5' hb5 hbw5 HO Hown Hmap2 Hus CO x0 x1 x2 x3 x4 x5 HC HbW HG9 Hst HQ2 Hb4
              go_wp2
              go_roundw
              case rel => exact ⟨k + 1, by have := Hlt.out; omega, by go_num, by rw [HT.out]; exact hN.1, hN.2⟩
              case measure => have := Hlt.out; simp [intOf]; omega
        · have e : k = ys.length := by omega
          subst e
          obtain ⟨hg9, y, us2, hO, hown, hmap, hus⟩ := hrow
          obtain ⟨yq, ycap, rfl⟩ := own_slice hown
          have hnt := Hnt.out.grow hg9 (Other.cells hO0.out (by decide)) (Other.cells hO0.out (by decide))
          have hOc0 : wr.cell? ⟨O, 0, none⟩ = some (.slice nq' zs.length ncap) := cellk hO 0 _ rfl
          have hOc1 : wr.cell? ⟨O, 1, none⟩ = some (.slice yq us2.length ycap) := cellk hO 1 _ rfl
          have d2 := hst.2.2.2.1
          have p0 : wr.cell? ⟨B + 1 + 1, 0, none⟩ = some (.slice none 0 0) := cellk d2 0 _ rfl
          have p1 : wr.cell? ⟨B + 1 + 1, 1, none⟩ = some (.slice none 0 0) := cellk d2 1 _ rfl
          have f0 := freek d2 0
          have f1 := freek d2 1
          have hg1 := grown_set wr ⟨B + 1 + 1, 0, none⟩ (.slice nq' zs.length ncap)
          have d3 := set_o2 d2 (.slice nq' zs.length ncap)
          have hg2 := grown_set (wr.setCell ⟨B + 1 + 1, 0, none⟩ (.slice nq' zs.length ncap)) ⟨B + 1 + 1, 1, none⟩ (.slice yq us2.length ycap)
          have d4 := set_o3 d3 (.slice yq us2.length ycap)
          have o1 := fun T (h : (42 : TypeId) ≠ T) => Other.cells (T := T) d2 h
          have o2 := fun T (h : (42 : TypeId) ≠ T) => Other.cells (T := T) d3 h
          have hnt2 := (hnt.grow hg1 (o1 _ (by decide)) (o1 _ (by decide))).grow hg2 (o2 _ (by decide)) (o2 _ (by decide))
          have hsy := slGrow (slGrow (Sl.own hown) (Typ.own hown) hg1 (o1 _ (by decide))) ((Typ.own hown).grow hg1 (o1 _ (by decide))) hg2 (o2 _ (by decide))
          have hus2 : ∀ z ∈ us2, TxtIs ((wr.setCell ⟨B + 1 + 1, 0, none⟩ (.slice nq' zs.length ncap)).setCell ⟨B + 1 + 1, 1, none⟩ (.slice yq us2.length ycap)) z.1.vs z.2 := fun z hz =>
            ⟨(hus z hz).1.1, slGrow (slGrow (hus z hz).1.2 (hus z hz).2 hg1 (o1 _ (by decide))) ((hus z hz).2.grow hg1 (o1 _ (by decide))) hg2 (o2 _ (by decide))⟩
          have hbb := ((hst.1.set (p := ⟨B + 1 + 1, 0, none⟩) (by have := HBq.out; simp; omega) (.slice nq' zs.length ncap)).set (p := ⟨B + 1 + 1, 1, none⟩) (by have := HBq.out; simp; omega) (.slice yq us2.length ycap))
          have HN := Lib.hid hnt2
          have HSy := Lib.hid hsy
          have HUs := Lib.hid hus2
          have Hbb := Lib.hid hbb
          have D4 := Lib.hid d4
          have Hmp := Lib.hid hmap
          clear hnt hg9 hown hmap hus hO hst hg1 hg2 d2 d3 d4 o1 o2 hnt2 hsy hus2 hbb HFs HW Hst2
          go_wp2
          have k0 : ((wr.setCell ⟨B + 1 + 1, 0, none⟩ (.slice nq' zs.length ncap)).setCell ⟨B + 1 + 1, 1, none⟩ (.slice yq us2.length ycap)).cell? ⟨B + 1 + 1, 0, none⟩ = some (.slice nq' zs.length ncap) := cellk D4.out 0 _ rfl
          have k1 : ((wr.setCell ⟨B + 1 + 1, 0, none⟩ (.slice nq' zs.length ncap)).setCell ⟨B + 1 + 1, 1, none⟩ (.slice yq us2.length ycap)).cell? ⟨B + 1 + 1, 1, none⟩ = some (.slice yq us2.length ycap) := cellk D4.out 1 _ rfl
          generalize World.setCell (World.setCell wr _ _) _ _ = W9' at *
          refine bodyPost_ret (by simp [results, Tryz.results15, go_sem, k0, k1]; try rfl) rfl ?_
          have hm := Hmap.out
          have hl2 := HN.out.1
          rw [hul] at hl2
          refine ⟨(nq', zs.length, ncap), (yq, us2.length, ycap), rfl, Hbb.out, ⟨us, hm, hul.symm, HN.out.1, fun z hz => (HN.out.2.2 z hz).1⟩, ⟨us2, ?_, rfl, HSy.out, HUs.out⟩⟩
          rw [Hmp.out, HFn.out]
end Go.Proofs.YtljeeehimcdmbaaGreatDoor
