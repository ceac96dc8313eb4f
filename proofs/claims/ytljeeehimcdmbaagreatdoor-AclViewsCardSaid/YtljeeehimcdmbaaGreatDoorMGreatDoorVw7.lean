/- The walk of toponymlaw31.AclViews. No condition. -/
import Derived.Test.YtljeeehimcdmbaaGreatDoorMGreatDoorVw3
namespace Go.Proofs.YtljeeehimcdmbaaGreatDoor
open Go.RowKit Go.Wd Go.Dir Go.Shelf Go.Rq
open Go.Proofs.YtljeeehimcdmbaaGreatDoor.En (strC Vls Vls.none Vls.cells Pr Pr.none Pr.cells Hd.none hd_at pr_at vls_at VQ PQ2 EQ Ent Ent.val Ent.cells behind behind2 behind_ok behind2_ok)

def elseT : ByteArray := ⟨#[115, 111, 109, 101, 116, 104, 105, 110, 103, 32, 101, 108, 115, 101]⟩
/-- An attribute that may not be seen has another value. -/
def veil (l : List Attr) (gs : List SG) (who key : ByteArray) (kind : Int) (a : At) : At := if allowedA l gs who key a.1 kind then a else (a.1, [elseT])
theorem seen_veil (l : List Attr) (gs : List SG) (who key : ByteArray) (kind : Int) (atr : List At) : seen l gs who key kind (atr.map (veil l gs who key kind)) = seen l gs who key kind atr := by
  unfold seen
  induction atr with
  | nil => rfl
  | cons a rest ih =>
    rw [List.map_cons, List.filter_cons, List.filter_cons, ih]
    unfold veil
    cases h : allowedA l gs who key a.1 kind
    · simp [h]
    · simp [h]
theorem seen_seen (l : List Attr) (gs : List SG) (who key : ByteArray) (kind : Int) (atr : List At) : seen l gs who key kind (seen l gs who key kind atr) = seen l gs who key kind atr := by
  unfold seen
  rw [List.filter_filter]
  simp

/-- What other holds behind so many rounds. -/
def CRow (W8 w : World) (nm : Value) (O : Nat) (ys : List (Vls × List ByteArray)) (l : List At) : Prop := Bel W8 w ∧ O + 1 ≤ w.heap.size ∧ ∃ (y : Value) (us : List (Vls × List ByteArray)), w.heap[O]? = some (.cells #[nm, y] 42) ∧ w.ownsRow (O + 1) 59 2 y us.length (us.flatMap fun z => z.1.cells) ∧ us.map (fun z => (z.1.name, z.2)) = l ∧ ∀ z ∈ us, z ∈ ys ∨ (TxtIs w z.1.vs z.2 ∧ Typ w z.1.vs.val 9)
theorem crow_next {W8 wr w4 w5 : World} {O : Nat} {nm y v' : Value} {us ys : List (Vls × List ByteArray)} {z : Vls × List ByteArray} {l : List At}
    (hO8 : W8.heap.size ≤ O) (hb8 : Bel W8 wr) (hsz : O + 1 ≤ wr.heap.size) (hO : wr.heap[O]? = some (.cells #[nm, y] 42)) (hown : wr.ownsRow (O + 1) 59 2 y us.length (us.flatMap fun z => z.1.cells))
    (hmap : us.map (fun z => (z.1.name, z.2)) = l) (hus : ∀ z ∈ us, z ∈ ys ∨ (TxtIs wr z.1.vs z.2 ∧ Typ wr z.1.vs.val 9))
    (hb4 : Bel wr w4) (hz : z ∈ ys ∨ (TxtIs w4 z.1.vs z.2 ∧ Typ w4 z.1.vs.val 9)) (hown' : w5.ownsRow (O + 1) 59 2 v' (us.length + 1) ((us.flatMap fun z => z.1.cells) ++ z.1.cells)) (hg : w4.grownBy w5 y.ownBlock) :
    CRow W8 (w5.setCell ⟨O, 1, none⟩ v') nm O ys (l ++ [((z.1.name, z.2) : At)]) := by
  have hO5 := out_kept9 hO hown (Nat.lt_succ_self O) hb4 hg
  have hoth := Other.own (T' := 9) (own_bel hown hb4) (by decide)
  have hg2 := grown_set w5 ⟨O, 1, none⟩ v'
  have hoth2 := Other.cells (T := 9) hO5 (by decide)
  refine ⟨((hb8.trans hb4).grown hg (fun j e => by have := (hown.lt j e).1; omega)).set (p := ⟨O, 1, none⟩) hO8 v', Nat.le_trans hsz (Nat.le_trans hb4.size (Nat.le_trans hg.size hg2.size)), v', us ++ [z], set_o3 hO5 _, ?_, ?_, ?_⟩
  · rw [List.flatMap_append, List.length_append]
    have := ownsRow_setCell_below hown' (a := ⟨O, 1, none⟩) (by simp) v'
    simpa using this
  · rw [List.map_append, hmap]; rfl
  · intro u hu
    rcases List.mem_append.1 hu with hu | hu
    · rcases hus u hu with h | ⟨⟨a1, a2⟩, a3⟩
      · exact .inl h
      · have a2 := a2.bel hb4
        have a3 : Typ w4 u.1.vs.val 9 := a3.grow (hb4.grow Option.none) (Other.none _ _)
        exact .inr ⟨⟨a1, slGrow (slGrow a2 a3 hg hoth) (a3.grow hg hoth) hg2 hoth2⟩, (a3.grow hg hoth).grow hg2 hoth2⟩
    · rw [List.mem_singleton.1 hu]
      rcases hz with h | ⟨⟨a1, a2⟩, a3⟩
      · exact .inl h
      · exact .inr ⟨⟨a1, slGrow (slGrow a2 a3 hg hoth) (a3.grow hg hoth) hg2 hoth2⟩, (a3.grow hg hoth).grow hg2 hoth2⟩

set_option maxRecDepth 100000 in
set_option maxHeartbeats 4000000 in
theorem views_any (hawk : ∀ w, Calls Tryz.prog 10 #[] w fun en w' => en = .returned (.bool true) ∧ Below w.heap.size w w')
    (l : List Attr) (cs : List Cls) (v u gv : Value) (gs : List Grant) (nh ah : Hd) (who key attr : ByteArray) (kind : Int) (w : World)
    (hs : Sl w v 6 l.length (attrCells l)) (hc : Sl w u 5 cs.length (clsCells cs)) (hg : Sl w gv 7 gs.length (grantCells gs)) (hent : EQ w (nh, ah)) :
    Calls Tryz.prog 6 #[.agg #[v, u], gv, .agg #[nh.val, ah.val, .string who, .string key, .string attr, .int .i64 kind]] w fun e w' => e = .returned (.bool true) ∧ Bel w w' := by
  have HA := fun w' => Lib.hid (hawk w')
  have HF := fun w' (h : Bel w w') => Lib.hid (few21_any l cs v u w' (hs.bel h) (hc.bel h))
  have HG := fun w' (h : Bel w w') => Lib.hid (few_any gs gv w' (hg.bel h))
  have HS := fun w' => Lib.hid (short_any who key attr kind w')
  obtain ⟨f5, ns, atr, hn, hat, hsm, hfew⟩ := few29_is w (nh, ah) hent
  have HE := fun w' h => Lib.hid (hfew w' h)
  have Hn := Lib.hid hn
  have Hat := Lib.hid hat
  have HSm := Lib.hid hsm
  clear hawk hn hat hsm hfew hent
  obtain ⟨q, cap, rfl⟩ : ∃ q cap, v = .slice q l.length cap := by obtain ⟨_, q, cap, h, _⟩ := hs; exact ⟨q, cap, h⟩
  obtain ⟨qc, capc, rfl⟩ : ∃ q cap, u = .slice q cs.length cap := by obtain ⟨_, q, cap, h, _⟩ := hc; exact ⟨q, cap, h⟩
  obtain ⟨qg, capg, rfl⟩ : ∃ q cap, gv = .slice q gs.length cap := by obtain ⟨_, q, cap, h, _⟩ := hg; exact ⟨q, cap, h⟩
  obtain ⟨nq, nn, nc⟩ := nh
  obtain ⟨aq, an, ac⟩ := ah
  unfold Ent.val at HE
  dsimp only [Hd.val] at HE ⊢
  have Hs := Lib.hid hs
  have Hg := Lib.hid hg
  clear hs hc hg
  obtain ⟨f1, hf1⟩ : ∃ b, b = fewS l cs := ⟨_, rfl⟩
  obtain ⟨f2, hf2⟩ : ∃ b, b = fewL gs := ⟨_, rfl⟩
  obtain ⟨f4, hf4⟩ : ∃ b, b = shortQ who key attr := ⟨_, rfl⟩
  rw [← hf1] at HF
  rw [← hf2] at HG
  rw [← hf4] at HS
  have HF1 := Lib.hid hf1
  have HF2 := Lib.hid hf2
  have HF4 := Lib.hid hf4
  clear hf1 hf2 hf4
  go_enter Tryz.func6, Tryz.ntmps6
  go_upto_region 1 with fail
  have hbel := ((Bel.refl w).alloc (.cells #[.slice q l.length cap, .slice qc cs.length capc] 25)).alloc (.cells #[.slice nq nn nc, .slice aq an ac, .string who, .string key, .string attr, .int .i64 kind] 44)
  have b1 := new_at (w.alloc (.cells #[.slice q l.length cap, .slice qc cs.length capc] 25)) (.cells #[.slice nq nn nc, .slice aq an ac, .string who, .string key, .string attr, .int .i64 kind] 44)
  have b0 := old_at (new_at w (.cells #[.slice q l.length cap, .slice qc cs.length capc] 25)) (.cells #[.slice nq nn nc, .slice aq an ac, .string who, .string key, .string attr, .int .i64 kind] 44)
  simp only [World.size_alloc] at b0 b1 ⊢
  generalize hW0 : World.alloc (World.alloc _ _) _ = W0 at *
  clear hW0
  have cell : ∀ w', Bel W0 w' → w'.cell? ⟨w.heap.size, 0, none⟩ = some (.slice q l.length cap) ∧ w'.cell? ⟨w.heap.size, 1, none⟩ = some (.slice qc cs.length capc) ∧ w'.cell? ⟨w.heap.size + 1, 0, none⟩ = some (.slice nq nn nc) ∧ w'.cell? ⟨w.heap.size + 1, 1, none⟩ = some (.slice aq an ac) ∧ w'.cell? ⟨w.heap.size + 1, 2, none⟩ = some (.string who) ∧ w'.cell? ⟨w.heap.size + 1, 3, none⟩ = some (.string key) ∧ w'.cell? ⟨w.heap.size + 1, 4, none⟩ = some (.string attr) ∧ w'.cell? ⟨w.heap.size + 1, 5, none⟩ = some (.int .i64 kind) := fun W h =>
    ⟨cellk (h.at b0) 0 _ rfl, cellk (h.at b0) 1 _ rfl, cellk (h.at b1) 0 _ rfl, cellk (h.at b1) 1 _ rfl, cellk (h.at b1) 2 _ rfl, cellk (h.at b1) 3 _ rfl, cellk (h.at b1) 4 _ rfl, cellk (h.at b1) 5 _ rfl⟩
  clear b0 b1
  generalize w.heap.size = B at cell ⊢
  have Hbel := Lib.hid hbel
  have Cell := fun W h => Lib.hid (cell W h)
  clear cell hbel
  cases f1 with
  | false =>
    clear HG HS HE HF1 HF2 HF4
    obtain ⟨x0, x1, -⟩ := (Cell W0 (Bel.refl _)).out
    clear Cell
    go_wp2_with (first | (go_at_call 7; refine (HF _ Hbel.out).out.mono ?_; rintro e w' ⟨rfl, hb1⟩) | (go_at_call 10; refine (HA _).out.mono ?_; rintro e w3 ⟨rfl, hb3⟩))
    go_ret
    exact ⟨rfl, (Hbel.out.trans hb1).trans hb3⟩
  | true =>
  cases f2 with
  | false =>
    clear HS HE HF1 HF2 HF4
    obtain ⟨x0, x1, -⟩ := (Cell W0 (Bel.refl _)).out
    go_wp2_with (first | (go_at_call 7; refine (HF _ Hbel.out).out.mono ?_; rintro e w1 ⟨rfl, hb1⟩; obtain ⟨y0, y1, y2, y3, y4, y5, y6, y7⟩ := (Cell _ hb1).out) | (go_at_call 8; refine (HG _ (Hbel.out.trans hb1)).out.mono ?_; rintro e w' ⟨rfl, hw⟩; subst hw) | (go_at_call 10; refine (HA _).out.mono ?_; rintro e w3 ⟨rfl, hb3⟩))
    go_ret
    exact ⟨rfl, (Hbel.out.trans hb1).trans hb3⟩
  | true =>
  cases f4 with
  | false =>
    clear HE HF1 HF2 HF4
    obtain ⟨x0, x1, -⟩ := (Cell W0 (Bel.refl _)).out
    go_wp2_with (first | (go_at_call 7; refine (HF _ Hbel.out).out.mono ?_; rintro e w1 ⟨rfl, hb1⟩; obtain ⟨y0, y1, y2, y3, y4, y5, y6, y7⟩ := (Cell _ hb1).out) | (go_at_call 8; refine (HG _ (Hbel.out.trans hb1)).out.mono ?_; rintro e w' ⟨rfl, hw⟩; subst hw) | (go_at_call 9; refine (HS _).out.mono ?_; rintro e w2 ⟨rfl, hb2⟩; obtain ⟨z0, z1, z2, z3, z4, z5, z6, z7⟩ := (Cell _ (hb1.trans hb2)).out) | (go_at_call 10; refine (HA _).out.mono ?_; rintro e w3 ⟨rfl, hb3⟩))
    go_ret
    exact ⟨rfl, ((Hbel.out.trans hb1).trans hb2).trans hb3⟩
  | true =>
  cases f5 with
  | false =>
    clear HF1 HF2 HF4
    obtain ⟨x0, x1, -⟩ := (Cell W0 (Bel.refl _)).out
    go_wp2_with (first | (go_at_call 7; refine (HF _ Hbel.out).out.mono ?_; rintro e w1 ⟨rfl, hb1⟩; obtain ⟨y0, y1, y2, y3, y4, y5, y6, y7⟩ := (Cell _ hb1).out) | (go_at_call 8; refine (HG _ (Hbel.out.trans hb1)).out.mono ?_; rintro e w' ⟨rfl, hw⟩; subst hw) | (go_at_call 9; refine (HS _).out.mono ?_; rintro e w2 ⟨rfl, hb2⟩; obtain ⟨z0, z1, z2, z3, z4, z5, z6, z7⟩ := (Cell _ (hb1.trans hb2)).out) | (go_at_call 14; refine (HE _ ((Hbel.out.trans hb1).trans hb2)).out.mono ?_; rintro e w4 ⟨rfl, hb4⟩) | (go_at_call 10; refine (HA _).out.mono ?_; rintro e w3 ⟨rfl, hb3⟩))
    go_ret
    exact ⟨rfl, (((Hbel.out.trans hb1).trans hb2).trans hb4).trans hb3⟩
  | true =>
    obtain ⟨x0, x1, -⟩ := (Cell W0 (Bel.refl _)).out
    go_upto_region 3 with (first | (go_at_call 7; refine (HF _ Hbel.out).out.mono ?_; rintro e w1 ⟨rfl, hb1⟩; obtain ⟨y0, y1, y2, y3, y4, y5, y6, y7⟩ := (Cell _ hb1).out) | (go_at_call 8; refine (HG _ (Hbel.out.trans hb1)).out.mono ?_; rintro e w' ⟨rfl, hw⟩; subst hw) | (go_at_call 9; refine (HS _).out.mono ?_; rintro e w2 ⟨rfl, hb2⟩; obtain ⟨z0, z1, z2, z3, z4, z5, z6, z7⟩ := (Cell _ (hb1.trans hb2)).out) | (go_at_call 14; refine (HE _ ((Hbel.out.trans hb1).trans hb2)).out.mono ?_; rintro e w4 ⟨rfl, hb4⟩))
    obtain ⟨hl, ha, hk, hgl, sl, hsl, hsn⟩ := few_facts2 HF1.out HF2.out HF4.out
    obtain ⟨t1, t2, t3, t4⟩ := HSm.out (by first | exact rfl | trivial)
    have hb5 : Bel W0 w4 := (hb1.trans hb2).trans hb4
    clear HF HG HS HE HF1 HF2 HF4 HSm y0 y1 y2 y3 y4 y5 y6 y7 z0 z1 z2 z3 z4 z5 z6 z7 x0 x1 hb4 hb2 hb1
    have HV := fun nh' ah' atr' w' (h : Bel W0 w') (k1 : NameIs w' nh' ns) (k2 : AttrsIs w' ah' atr') (k3 : atr'.length ≤ 1000) (k4 : ∀ a ∈ atr', a.2.length ≤ 1000) => Lib.hid (view_any l sl who key kind (.slice q l.length cap) (.slice qg gs.length capg) qc cs.length capc nh' ah' ns atr' w' (Hs.out.bel (Hbel.out.trans h)) hl ha hk (by rw [hsl, hsn]; exact Hg.out.bel (Hbel.out.trans h)) (by omega) k1 k2 t1 t2 k3 k4)
    have HW := fun at' w' (h : Bel W0 w') => Lib.hid (allowed_any l sl who key at' kind (.slice q l.length cap) (.slice qg gs.length capg) qc cs.length capc w' (Hs.out.bel (Hbel.out.trans h)) hl ha hk (by rw [hsl, hsn]; exact Hg.out.bel (Hbel.out.trans h)) (by omega))
    have T3 := Lib.hid t3
    have T4 := Lib.hid t4
    clear hl ha hk hgl hsl hsn Hs Hg t1 t2 t3 t4
    generalize allowedA l sl who key ⟨#[]⟩ kind = ok at HV
    obtain ⟨z0, z1, z2, z3, z4, z5, z6, z7⟩ := (Cell _ hb5).out
    go_upto_region 4 with fail
    have hbA := hb5.alloc (.cells #[.string who, .string key, .string attr, .int .i64 kind] 28)
    have nA := new_at w4 (.cells #[.string who, .string key, .string attr, .int .i64 kind] 28)
    clear z0 z1 z2 z3 z4 z5 z6 z7 hb5
    generalize hW5 : w4.alloc _ = W5 at *
    clear hW5
    generalize w4.heap.size = A at *
    clear w4
    have CellA := fun W (h : Bel W5 W) => Lib.hid (show W.cell? ⟨A, 0, none⟩ = some (.string who) ∧ W.cell? ⟨A, 1, none⟩ = some (.string key) ∧ W.cell? ⟨A, 2, none⟩ = some (.string attr) ∧ W.cell? ⟨A, 3, none⟩ = some (.int .i64 kind) from ⟨cellk (h.at nA) 0 _ rfl, cellk (h.at nA) 1 _ rfl, cellk (h.at nA) 2 _ rfl, cellk (h.at nA) 3 _ rfl⟩)
    have HbA := Lib.hid hbA
    have CellB := fun W (h : Bel W5 W) => Cell W (HbA.out.trans h)
    clear nA hbA Cell
    have HV1 := HV (nq, nn, nc) (aq, an, ac) atr W5 HbA.out (Hn.out.bel (Hbel.out.trans HbA.out)) (Hat.out.bel (Hbel.out.trans HbA.out)) T3.out T4.out
    dsimp only [Hd.val] at HV1
    obtain ⟨a0, a1, a2, a3⟩ := (CellA _ (Bel.refl _)).out
    obtain ⟨z0, z1, z2, z3, z4, z5, z6, z7⟩ := (CellB _ (Bel.refl _)).out
    cases ok with
    | false =>
      clear HW T3 T4 Hn Hat HV
      go_wp2_with (first | (go_at_call 15; refine HV1.out.mono ?_; rintro e w6 ⟨⟨m1, m2, m3⟩, ⟨k1, k2, k3⟩, rfl, hb6, hm, hk⟩; dsimp only; have hSm := fun w' (h : Bel w6 w') => Lib.hid (same30 (m1, m2, m3) (k1, k2, k3) (Option.none, 0, 0) (Option.none, 0, 0) _ _ w' (hm.bel h) (hk.bel h) (NameIs.nil _) (AttrsIs.nil _)); dsimp only [Hd.val] at hSm; clear hm hk) | (go_at_call 17; refine (hSm _ (by repeat first | exact Bel.refl _ | refine Bel.alloc ?_ _)).out.mono ?_; rintro e w7 ⟨rfl, hb7⟩) | (go_at_call 10; refine (HA _).out.mono ?_; rintro e w8 ⟨rfl, hb8⟩))
      go_ret
      exact ⟨rfl, (((Hbel.out.trans HbA.out).trans (hb6.alloc _)).trans hb7).trans hb8⟩
    | true =>
      have HLen := Lib.hid (Nat.le_trans (List.length_filter_le (fun a => allowedA l sl who key a.1 kind) atr) T3.out)
      have HMem := Lib.hid (fun a (h : a ∈ seen l sl who key kind atr) => T4.out a (List.mem_filter.1 h).1)
      simp only [if_true] at HV1 HV
      go_upto_region 5 with (go_at_call 15; refine HV1.out.mono ?_; rintro e w6 ⟨⟨m1, m2, m3⟩, ⟨k1, k2, k3⟩, rfl, hb6, hm, hk⟩; dsimp only)
      have hbV := hb6.alloc (.cells #[.slice m1 m2 m3, .slice k1 k2 k3] 42)
      have nV := new_at w6 (.cells #[.slice m1 m2 m3, .slice k1 k2 k3] 42)
      replace hm := hm.bel ((Bel.refl w6).alloc (.cells #[.slice m1 m2 m3, .slice k1 k2 k3] 42))
      replace hk := hk.bel ((Bel.refl w6).alloc (.cells #[.slice m1 m2 m3, .slice k1 k2 k3] 42))
      clear a0 a1 a2 a3 z0 z1 z2 z3 z4 z5 z6 z7 HV1
      generalize hW6 : w6.alloc _ = W6 at *
      clear hW6
      generalize w6.heap.size = V at *
      clear hb6
      clear w6
      have CellV := fun W (h : Bel W6 W) => Lib.hid (show W.cell? ⟨V, 0, none⟩ = some (.slice m1 m2 m3) ∧ W.cell? ⟨V, 1, none⟩ = some (.slice k1 k2 k3) from ⟨cellk (h.at nV) 0 _ rfl, cellk (h.at nV) 1 _ rfl⟩)
      have HbV := Lib.hid hbV
      have Hm := Lib.hid hm
      have Hk := Lib.hid hk
      clear nV hbV hm hk
      have HV2 := HV (m1, m2, m3) (k1, k2, k3) _ W6 (HbA.out.trans HbV.out) Hm.out Hk.out HLen.out HMem.out
      rw [seen_seen] at HV2
      dsimp only [Hd.val] at HV2
      obtain ⟨a0, a1, a2, a3⟩ := (CellA _ HbV.out).out
      obtain ⟨z0, z1, z2, z3, z4, z5, z6, z7⟩ := (CellB _ HbV.out).out
      obtain ⟨v0, v1⟩ := (CellV _ (Bel.refl _)).out
      go_upto_region 8 with (go_at_call 15; refine HV2.out.mono ?_; rintro e w6 ⟨⟨p1, p2, p3⟩, ⟨r1, r2, r3⟩, rfl, hb6, hp, hr⟩; dsimp only)
      have hbY := hb6.alloc (.cells #[.slice p1 p2 p3, .slice r1 r2 r3] 42)
      have nY := new_at w6 (.cells #[.slice p1 p2 p3, .slice r1 r2 r3] 42)
      replace hp := hp.bel ((Bel.refl w6).alloc (.cells #[.slice p1 p2 p3, .slice r1 r2 r3] 42))
      replace hr := hr.bel ((Bel.refl w6).alloc (.cells #[.slice p1 p2 p3, .slice r1 r2 r3] 42))
      clear a0 a1 a2 a3 z0 z1 z2 z3 z4 z5 z6 z7 v0 v1 HV2
      generalize hW7 : w6.alloc _ = W7 at *
      clear hW7
      generalize w6.heap.size = Y at *
      clear hb6
      clear w6
      have CellY := fun W (h : Bel W7 W) => Lib.hid (show W.cell? ⟨Y, 0, none⟩ = some (.slice p1 p2 p3) ∧ W.cell? ⟨Y, 1, none⟩ = some (.slice r1 r2 r3) from ⟨cellk (h.at nY) 0 _ rfl, cellk (h.at nY) 1 _ rfl⟩)
      have HbY := Lib.hid hbY
      have Hp := Lib.hid hp
      have Hr := Lib.hid hr
      clear nY hbY hp hr
      obtain ⟨z0, z1, z2, z3, z4, z5, z6, z7⟩ := (CellB _ (HbV.out.trans HbY.out)).out
      go_upto_region 9 with fail
      have hO := new_at W7 (.cells #[.slice nq nn nc, .slice none 0 0] 42)
      have hbO := (Bel.refl W7).alloc (.cells #[.slice nq nn nc, .slice none 0 0] 42)
      clear z0 z1 z2 z3 z4 z5 z6 z7
      obtain ⟨ys, hy1, e2, hy2, hy3⟩ := Hat.out
      subst hy1
      obtain rfl : an = ys.length := e2
      have hcr : CRow W7 (W7.alloc (.cells #[.slice nq nn nc, .slice none 0 0] 42)) (.slice nq nn nc) W7.heap.size ys [] := ⟨hbO, by simp, _, [], hO, World.ownsRow_nil _ _ _ _, rfl, fun z hz => by cases hz⟩
      have HCr := Lib.hid hcr
      have Hy2 := Lib.hid hy2
      have Hy3 := Lib.hid hy3
      have HbW7 := Lib.hid (((Hbel.out.trans HbA.out).trans HbV.out).trans HbY.out)
      clear hO hbO hcr hy2 hy3
      generalize hW8 : W7.alloc _ = W8 at *
      clear hW8
      obtain ⟨O, hO8⟩ : ∃ O, O = W7.heap.size := ⟨_, rfl⟩
      rw [← hO8] at HCr ⊢
      have HO8 := Lib.hid (show W7.heap.size ≤ O by omega)
      clear hO8
      go_wp2
      go_loopw [13] (fun i wr => ∃ k : Nat, k ≤ ys.length ∧ i = .int .i64 k ∧ CRow W7 wr (.slice nq nn nc) O ys (((ys.take k).map fun z => ((z.1.name, z.2) : At)).map (veil l sl who key kind))) (fun i _ => ys.length - (intOf i).toNat)
      case atStart => exact ⟨0, Nat.zero_le _, rfl, HCr.out⟩
      case round =>
        obtain ⟨k, hk, rfl, hrow⟩ := hrel
        have hb7 := (HbV.out.trans HbY.out).trans hrow.1
        have hbA := HbA.out.trans hb7
        have hbW := Hbel.out.trans hbA
        obtain ⟨a0, a1, a2, a3⟩ := (CellA _ hb7).out
        obtain ⟨z0, z1, z2, z3, z4, z5, z6, z7⟩ := (CellB _ hb7).out
        by_cases hlt : k < ys.length
        · obtain ⟨bb, off, cap', e, r0, r1⟩ := vp_at (Hy2.out.bel hbW) k hlt
          cases e
          have hmem := En.getD_mem ys (Vls.none, []) k hlt
          have hts := take_snoc ys (Vls.none, []) k hlt
          have hT : ((ys.take (k + 1)).map fun z => ((z.1.name, z.2) : At)).map (veil l sl who key kind) = ((ys.take k).map fun z => ((z.1.name, z.2) : At)).map (veil l sl who key kind) ++ [veil l sl who key kind ((ys.getD k (Vls.none, [])).1.name, (ys.getD k (Vls.none, [])).2)] := by rw [hts, List.map_append, List.map_append]; rfl
          have HT := Lib.hid hT
          have Hmem := Lib.hid hmem
          clear hT hts hmem
          generalize ys.getD k (Vls.none, []) = z at *
          obtain ⟨⟨zn, ⟨zq, zl, zc⟩⟩, ss⟩ := z
          dsimp only [Hd.val] at r0 r1
          have HA1 := HW zn
          have HS3 := T3.out
          rw [List.length_map] at HS3
          obtain ⟨hb8, hsz, y, us, hO, hown, hmap, hus⟩ := hrow
          have hul : us.length ≤ 1000 := by
            have e1 := congrArg List.length hmap
            rw [List.length_map, List.length_map, List.length_map, List.length_take] at e1
            omega
          obtain ⟨yq, ycap, rfl⟩ := own_slice hown
          have Hb8 := Lib.hid hb8
          have Hsz := Lib.hid hsz
          have HO := Lib.hid hO
          have Hown := Lib.hid hown
          have Hmap := Lib.hid hmap
          have Hus := Lib.hid hus
          have Hul := Lib.hid hul
          have Hlt := Lib.hid hlt
          have HbW := Lib.hid hbA
          have j0 : (0 : Int) ≤ (k : Int) := Int.natCast_nonneg _
          have j1 : (k : Int) < (ys.length : Int) := by omega
          clear hb8 hsz hO hown hmap hus hul hb7 hbA hbW Hy2
          go_upto_region 13 with fail
          have hbQ := (Bel.refl wr).alloc (.cells #[.string zn, .slice zq zl zc] 59)
          have hQ := new_at wr (.cells #[.string zn, .slice zq zl zc] 59)
          have hOQ := hbQ.at HO.out
          obtain ⟨z0, z1, -, -, -, -, -, -⟩ := (CellB _ (((HbV.out.trans HbY.out).trans Hb8.out).trans hbQ)).out
          obtain ⟨a0, a1, a2, a3⟩ := (CellA _ (((HbV.out.trans HbY.out).trans Hb8.out).trans hbQ)).out
          clear r0 r1 z2 z3 z4 z5 z6 z7
          have hQsz := World.size_alloc wr (.cells #[.string zn, .slice zq zl zc] 59)
          generalize hW3 : wr.alloc _ = W3 at *
          clear hW3
          obtain ⟨Q, hQq⟩ : ∃ Q, Q = wr.heap.size := ⟨_, rfl⟩
          rw [← hQq] at hQ hQsz ⊢
          have HQq := Lib.hid hQq
          have HQsz := Lib.hid hQsz
          have HQ := Lib.hid hQ
          have HOQ := Lib.hid hOQ
          have HbQ := Lib.hid hbQ
          have n0 : W3.cell? ⟨Q, 0, none⟩ = some (.string zn) := cellk hQ 0 _ rfl
          clear hQ hQq hQsz hOQ hbQ
          obtain ⟨al, hal⟩ : ∃ b, b = allowedA l sl who key zn kind := ⟨_, rfl⟩
          rw [← hal] at HA1
          have hv : veil l sl who key kind (zn, ss) = if al then (zn, ss) else (zn, [elseT]) := by rw [hal]; rfl
          have Hv := Lib.hid hv
          clear hv hal
          cases al with
          | true =>
            go_wp2_with (first
              | (go_at_call 11; refine (HA1 _ (HbW.out.trans HbQ.out)).out.mono ?_; rintro e w4 ⟨rfl, hb4⟩; have c1 : w4.cell? ⟨O, 1, none⟩ = some (.slice yq us.length ycap) := cellk (hb4.at HOQ.out) 1 _ rfl; have c2 : w4.cell? ⟨Q, 0, none⟩ = some (.string zn) := cellk (hb4.at HQ.out) 0 _ rfl; have c3 : w4.cell? ⟨Q, 1, none⟩ = some (.slice zq zl zc) := cellk (hb4.at HQ.out) 1 _ rfl)
              | (at_builtin; refine wpList_appG appVs W7 (O + 1) rfl _ _ rfl (.slice yq us.length ycap) (.slice (some ⟨_, 0, none⟩) 1 1) us.length 1 (us.flatMap fun z => z.1.cells) [.string zn, .slice zq zl zc] (by rfl) (by rfl) (Hb8.out.trans (HbQ.out.trans (hb4.alloc _))) (by have := HO8.out; omega) (by have := Hsz.out; have := (HbQ.out.trans hb4).size; simp; omega) (own_bel Hown.out (HbQ.out.trans (hb4.alloc _))) (sl_lit2 (new_at _ _)) (by simp [Value.oneCell']) (by have := Hul.out; omega) ?_; intro v6 w6 hown6 hgrow6 hb6; obtain ⟨q6, cap6, rfl⟩ := own_slice hown6; have hO6 := out_kept9 HO.out Hown.out (Nat.lt_succ_self O) (HbQ.out.trans (hb4.alloc _)) hgrow6; have s0 : w6.cell? ⟨O, 1, none⟩ = some (.slice yq us.length ycap) := cellk hO6 1 _ rfl; have s1 := freek hO6 1))
            have hN := crow_next (z := (⟨zn, (zq, zl, zc)⟩, ss)) HO8.out Hb8.out Hsz.out HO.out Hown.out Hmap.out Hus.out (HbQ.out.trans (hb4.alloc _)) (.inl Hmem.out) hown6 hgrow6
            generalize World.setCell w6 _ _ = W9 at hN ⊢
            clear hown6 hgrow6 hb6 hO6 s0 s1 hb4 c1 c2 c3 HO Hown Hmap Hus HA1
            go_wp2
            go_roundw
            case rel => exact ⟨k + 1, by have := Hlt.out; omega, by go_num, by rw [HT.out, Hv.out]; exact hN⟩
            case measure => have := Hlt.out; simp [intOf]; omega
          | false =>
            go_upto_region 15 with (go_at_call 11; refine (HA1 _ (HbW.out.trans HbQ.out)).out.mono ?_; rintro e w4 ⟨rfl, hb4⟩; have c2 : w4.cell? ⟨Q, 0, none⟩ = some (.string zn) := cellk (hb4.at HQ.out) 0 _ rfl; have c3 : w4.cell? ⟨Q, 1, none⟩ = some (.slice zq zl zc) := cellk (hb4.at HQ.out) 1 _ rfl; have c4 := freek (hb4.at HQ.out) 1; have c5 : ∀ o, (w4.alloc o).cell? ⟨Q, 1, none⟩ = some (.slice zq zl zc) := fun o => cellk (old_at (hb4.at HQ.out) o) 1 _ rfl; have c6 : ∀ o, (w4.alloc o).frozen? ⟨Q, 1, none⟩ = false := fun o => freek (old_at (hb4.at HQ.out) o) 1)
            have hQ4 := hb4.at HQ.out
            have hQlt := (Array.getElem?_eq_some_iff.1 hQ4).1
            have hR := new_at w4 (.cells #[.string elseT] 9)
            have hQ5 := set_o3 (old_at hQ4 (.cells #[.string elseT] 9)) (.slice (some ⟨w4.heap.size, 0, none⟩) 1 1)
            have hR5 := set_other hR (j := Q) (by omega) 1 (.slice (some ⟨w4.heap.size, 0, none⟩) 1 1)
            have hb5 := ((HbQ.out.trans hb4).alloc (.cells #[.string elseT] 9)).set (p := ⟨Q, 1, none⟩) (by have := HQq.out; simp; omega) (.slice (some ⟨w4.heap.size, 0, none⟩) 1 1)
            clear c5 c6
            have c5 := hb5.at HO.out
            clear c2 c3 c4 hR hQ4 hQlt z0 z1 a0 a1 a2 a3 n0
            unfold elseT at hR5 hQ5 hb5 c5
            generalize hW5 : World.setCell (World.alloc w4 _) _ _ = W10 at *
            clear hW5 hb4
            generalize w4.heap.size = R at *
            have c0 : W10.cell? ⟨Q, 0, none⟩ = some (.string zn) := cellk hQ5 0 _ rfl
            have c1 : W10.cell? ⟨Q, 1, none⟩ = some (.slice (some ⟨R, 0, none⟩) 1 1) := cellk hQ5 1 _ rfl
            have c2 : W10.cell? ⟨O, 1, none⟩ = some (.slice yq us.length ycap) := cellk c5 1 _ rfl
            have HT5 := Lib.hid (show TxtIs W10 (some ⟨R, 0, none⟩, 1, 1) [elseT] ∧ Typ W10 (.slice (some ⟨R, 0, none⟩) 1 1) 9 from ⟨⟨rfl, sl_lit1 hR5⟩, fun b hb => by
              obtain ⟨o', n', c', e⟩ := hb
              cases e
              exact ⟨_, _, hR5⟩⟩)
            have Hb5 := Lib.hid hb5
            clear hQ5 hR5 hb5 c5
            go_wp2_with (at_builtin; refine wpList_appG appVs W7 (O + 1) rfl _ _ rfl (.slice yq us.length ycap) (.slice (some ⟨_, 0, none⟩) 1 1) us.length 1 (us.flatMap fun z => z.1.cells) [.string zn, .slice (some ⟨R, 0, none⟩) 1 1] (by rfl) (by rfl) (Hb8.out.trans (Hb5.out.alloc _)) (by have := HO8.out; omega) (by have := Hsz.out; have := Hb5.out.size; simp; omega) (own_bel Hown.out (Hb5.out.alloc _)) (sl_lit2 (new_at _ _)) (by simp [Value.oneCell']) (by have := Hul.out; omega) ?_; intro v6 w6 hown6 hgrow6 hb6; obtain ⟨q6, cap6, rfl⟩ := own_slice hown6; have hO6 := out_kept9 HO.out Hown.out (Nat.lt_succ_self O) (Hb5.out.alloc _) hgrow6; have s0 : w6.cell? ⟨O, 1, none⟩ = some (.slice yq us.length ycap) := cellk hO6 1 _ rfl; have s1 := freek hO6 1)
            have hN := crow_next (z := (⟨zn, (some ⟨R, 0, none⟩, 1, 1)⟩, [elseT])) HO8.out Hb8.out Hsz.out HO.out Hown.out Hmap.out Hus.out (Hb5.out.alloc _) (.inr ⟨HT5.out.1.bel ((Bel.refl _).alloc _), HT5.out.2.grow (((Bel.refl _).alloc _).grow Option.none) (Other.none _ _)⟩) hown6 hgrow6
            generalize World.setCell w6 _ _ = W9 at hN ⊢
            clear hown6 hgrow6 hb6 hO6 s0 s1 c0 c1 c2 HO Hown Hmap Hus HA1
            go_wp2
            go_roundw
            case rel => exact ⟨k + 1, by have := Hlt.out; omega, by go_num, by rw [HT.out, Hv.out]; exact hN⟩
            case measure => have := Hlt.out; simp [intOf]; omega
        · have e : k = ys.length := by omega
          subst e
          rw [List.take_length] at hrow
          obtain ⟨hb8, hsz, y, us, hO, hown, hmap, hus⟩ := hrow
          obtain ⟨yq, ycap, rfl⟩ := own_slice hown
          have o0 : wr.cell? ⟨O, 0, none⟩ = some (.slice nq nn nc) := cellk hO 0 _ rfl
          have o1 : wr.cell? ⟨O, 1, none⟩ = some (.slice yq us.length ycap) := cellk hO 1 _ rfl
          have hat : AttrsIs wr (yq, us.length, ycap) ((ys.map fun z => ((z.1.name, z.2) : At)).map (veil l sl who key kind)) := ⟨us, hmap, rfl, Sl.own hown, fun z hz => by
            rcases hus z hz with h | h
            · exact (Hy3.out z h).bel hbW
            · exact h.1⟩
          have hul : ((ys.map fun z => ((z.1.name, z.2) : At)).map (veil l sl who key kind)).length ≤ 1000 := by rw [List.length_map]; exact T3.out
          have hum : ∀ a ∈ (ys.map fun z => ((z.1.name, z.2) : At)).map (veil l sl who key kind), a.2.length ≤ 1000 := fun a ha => by
            obtain ⟨x, hx, rfl⟩ := List.mem_map.1 ha
            unfold veil
            split
            · exact T4.out x hx
            · show [elseT].length ≤ 1000
              simp
          have HV3 := HV (nq, nn, nc) (yq, us.length, ycap) _ wr hbA (Hn.out.bel hbW) hat hul hum
          rw [seen_veil] at HV3
          dsimp only [Hd.val] at HV3
          clear HV hO hown hmap hus hat hul hum Hy2 Hy3 T3 T4 HLen HMem HW HCr
          have Hb7 := Lib.hid hb7
          have HbA2 := Lib.hid hbA
          have HbW := Lib.hid hbW
          have Hb8 := Lib.hid hb8
          clear hb7 hbA hbW hb8
          go_upto_region 17 with (go_at_call 15; refine HV3.out.mono ?_; rintro e w6 ⟨⟨g1, g2, g3⟩, ⟨h1, h2, h3⟩, rfl, hb6, hg, hh⟩; dsimp only)
          have hbF := hb6.alloc (.cells #[.slice g1 g2 g3, .slice h1 h2 h3] 42)
          have nF := new_at w6 (.cells #[.slice g1 g2 g3, .slice h1 h2 h3] 42)
          replace hg := hg.bel ((Bel.refl w6).alloc (.cells #[.slice g1 g2 g3, .slice h1 h2 h3] 42))
          replace hh := hh.bel ((Bel.refl w6).alloc (.cells #[.slice g1 g2 g3, .slice h1 h2 h3] 42))
          clear a0 a1 a2 a3 z0 z1 z2 z3 z4 z5 z6 z7 HV3 o0 o1
          generalize hWF : w6.alloc _ = WF at *
          clear hWF
          generalize w6.heap.size = G at *
          have c7 := (CellY _ (Hb8.out.trans hbF)).out
          have c8 := (CellV _ ((HbY.out.trans Hb8.out).trans hbF)).out
          obtain ⟨x0, x1⟩ := c7
          obtain ⟨x2, x3⟩ := c8
          have hS1 := Lib.hid (same30 (p1, p2, p3) (r1, r2, r3) (m1, m2, m3) (k1, k2, k3) _ _ WF (Hp.out.bel (Hb8.out.trans hbF)) (Hr.out.bel (Hb8.out.trans hbF)) (Hm.out.bel ((HbY.out.trans Hb8.out).trans hbF)) (Hk.out.bel ((HbY.out.trans Hb8.out).trans hbF)))
          have hS2 := fun w' (h : Bel WF w') => Lib.hid (same30 (g1, g2, g3) (h1, h2, h3) (m1, m2, m3) (k1, k2, k3) _ _ w' (hg.bel h) (hh.bel h) (Hm.out.bel (((HbY.out.trans Hb8.out).trans hbF).trans h)) (Hk.out.bel (((HbY.out.trans Hb8.out).trans hbF).trans h)))
          dsimp only [Hd.val] at hS1 hS2
          have C9 := fun W (h : Bel WF W) => Lib.hid (show (W.cell? ⟨G, 0, none⟩ = some (.slice g1 g2 g3) ∧ W.cell? ⟨G, 1, none⟩ = some (.slice h1 h2 h3)) ∧ W.cell? ⟨V, 0, none⟩ = some (.slice m1 m2 m3) ∧ W.cell? ⟨V, 1, none⟩ = some (.slice k1 k2 k3) from ⟨⟨cellk (h.at nF) 0 _ rfl, cellk (h.at nF) 1 _ rfl⟩, h.cell x2, h.cell x3⟩)
          have HbF := Lib.hid hbF
          clear hg hh nF hbF hb6 CellY CellV CellA CellB Hp Hr Hm Hk Hn
          go_wp2_with (first | (go_at_call_has 17 p1; refine hS1.out.mono ?_; rintro e w7 ⟨rfl, hb7⟩; obtain ⟨⟨y0, y1⟩, y2, y3⟩ := (C9 _ hb7).out) | (go_at_call_has 17 g1; refine (hS2 _ hb7).out.mono ?_; rintro e w8 ⟨rfl, hb8⟩) | (go_at_call 10; refine (HA _).out.mono ?_; rintro e w9 ⟨rfl, hb9⟩))
          go_ret
          exact ⟨rfl, (((HbW.out.trans HbF.out).trans hb7).trans hb8).trans hb9⟩
end Go.Proofs.YtljeeehimcdmbaaGreatDoor
