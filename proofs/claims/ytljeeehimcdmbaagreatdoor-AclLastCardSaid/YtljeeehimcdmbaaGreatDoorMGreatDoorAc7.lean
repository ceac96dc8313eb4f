/- The walk of toponymlaw31.AclLast. No condition. -/
import Derived.Test.YtljeeehimcdmbaaGreatDoorMGreatDoorAc6
import Derived.Sort.AtCall
namespace Go.Proofs.YtljeeehimcdmbaaGreatDoor
open Go.RowKit Go.Wd Go.Dir Go.Shelf

theorem few_facts {l : List Attr} {cs : List Cls} {gs : List Grant} {g : Grant} {who key attr : ByteArray} (h1 : true = fewS l cs) (h2 : true = fewL gs) (h3 : true = fewL [g]) (h4 : true = shortQ who key attr) :
    l.length < 100000 ∧ (∀ a ∈ l, shortA a) ∧ key.size ≤ 1000000 ∧ gs.length ≤ 30 ∧ ∃ (sl : List SG) (x : SG), sgs sl = gs ∧ x.g = g ∧ sl.length = gs.length := by
  simp only [fewS, fewA, fewL, shortQ, Bool.and_eq_true, decide_eq_true_eq, List.all_eq_true, fewT, fewG, eq_comm (a := true), List.mem_singleton, forall_eq] at h1 h2 h3 h4
  refine ⟨by omega, fun a ha => ⟨by have := h1.1.2 a ha; omega, by have := h1.1.2 a ha; omega⟩, by omega, h2.1, ?_⟩
  obtain ⟨sl, e⟩ := sgs_of gs (fun x hx => by have := h2.2 x hx; omega)
  exact ⟨sl, ⟨g, by omega⟩, e, rfl, by rw [← e]; exact (sgs_len sl).symm⟩

set_option maxRecDepth 100000 in
set_option maxHeartbeats 1000000 in
theorem last_any (hawk : ∀ w, Calls Tryz.prog 10 #[] w fun en w' => en = .returned (.bool true) ∧ Below w.heap.size w w')
    (l : List Attr) (cs : List Cls) (v u gv : Value) (gs : List Grant) (g : Grant) (who key attr : ByteArray) (kind : Int) (w : World)
    (hs : Sl w v 6 l.length (attrCells l)) (hc : Sl w u 5 cs.length (clsCells cs)) (hg : Sl w gv 7 gs.length (grantCells gs)) :
    Calls Tryz.prog 5 #[.agg #[v, u], gv, .agg #[.string g.who, .string g.below, .string g.attr, .bool g.all, .bool g.self, .int .i64 g.kinds, .bool g.deny, .string who, .string key, .string attr, .int .i64 kind]] w fun e w' => e = .returned (.bool true) ∧ Bel w w' := by
  have HA := fun w' => Lib.hid (hawk w')
  have HF := fun w' (h : Bel w w') => Lib.hid (few21_any l cs v u w' (hs.bel h) (hc.bel h))
  have HG := fun w' (h : Bel w w') => Lib.hid (few_any gs gv w' (hg.bel h))
  have HS := fun w' => Lib.hid (short_any who key attr kind w')
  have HO := fun b w' h => Lib.hid (few_any [g] (.slice (some ⟨b, 0, none⟩) 1 1) w' (sl_one g h))
  clear hawk
  obtain ⟨q, cap, rfl⟩ : ∃ q cap, v = .slice q l.length cap := by obtain ⟨_, q, cap, h, _⟩ := hs; exact ⟨q, cap, h⟩
  obtain ⟨qc, capc, rfl⟩ : ∃ q cap, u = .slice q cs.length cap := by obtain ⟨_, q, cap, h, _⟩ := hc; exact ⟨q, cap, h⟩
  obtain ⟨qg, capg, rfl⟩ : ∃ q cap, gv = .slice q gs.length cap := by obtain ⟨_, q, cap, h, _⟩ := hg; exact ⟨q, cap, h⟩
  have Hs := Lib.hid hs
  have Hg := Lib.hid hg
  clear hs hc hg
  obtain ⟨f1, hf1⟩ : ∃ b, b = fewS l cs := ⟨_, rfl⟩
  obtain ⟨f2, hf2⟩ : ∃ b, b = fewL gs := ⟨_, rfl⟩
  obtain ⟨f3, hf3⟩ : ∃ b, b = fewL [g] := ⟨_, rfl⟩
  obtain ⟨f4, hf4⟩ : ∃ b, b = shortQ who key attr := ⟨_, rfl⟩
  rw [← hf1] at HF
  rw [← hf2] at HG
  rw [← hf3] at HO
  rw [← hf4] at HS
  have HF1 := Lib.hid hf1
  have HF2 := Lib.hid hf2
  have HF3 := Lib.hid hf3
  have HF4 := Lib.hid hf4
  clear hf1 hf2 hf3 hf4
  go_enter Tryz.func5, Tryz.ntmps5
  go_upto_region 1 with fail
  have hbel := ((Bel.refl w).alloc (.cells #[.slice q l.length cap, .slice qc cs.length capc] 25)).alloc (.cells #[.string g.who, .string g.below, .string g.attr, .bool g.all, .bool g.self, .int .i64 g.kinds, .bool g.deny, .string who, .string key, .string attr, .int .i64 kind] 54)
  have b1 := new_at (w.alloc (.cells #[.slice q l.length cap, .slice qc cs.length capc] 25)) (.cells #[.string g.who, .string g.below, .string g.attr, .bool g.all, .bool g.self, .int .i64 g.kinds, .bool g.deny, .string who, .string key, .string attr, .int .i64 kind] 54)
  have b0 := old_at (new_at w (.cells #[.slice q l.length cap, .slice qc cs.length capc] 25)) (.cells #[.string g.who, .string g.below, .string g.attr, .bool g.all, .bool g.self, .int .i64 g.kinds, .bool g.deny, .string who, .string key, .string attr, .int .i64 kind] 54)
  have hsz : ((w.alloc (.cells #[.slice q l.length cap, .slice qc cs.length capc] 25)).alloc (.cells #[.string g.who, .string g.below, .string g.attr, .bool g.all, .bool g.self, .int .i64 g.kinds, .bool g.deny, .string who, .string key, .string attr, .int .i64 kind] 54)).heap.size = w.heap.size + 2 := by simp only [World.size_alloc]
  simp only [World.size_alloc] at b0 b1 ⊢
  generalize hW0 : World.alloc (World.alloc _ _) _ = W0 at *
  clear hW0
  obtain ⟨B, hB⟩ : ∃ B, B = w.heap.size := ⟨_, rfl⟩
  rw [← hB] at hsz b0 b1 ⊢
  have HB := Lib.hid hB
  have Hbel := Lib.hid hbel
  have cell : ∀ W, Bel W0 W → W.cell? ⟨B, 0, none⟩ = some (.slice q l.length cap) ∧ W.cell? ⟨B, 1, none⟩ = some (.slice qc cs.length capc) ∧ W.cell? ⟨B + 1, 0, none⟩ = some (.string g.who) ∧ W.cell? ⟨B + 1, 1, none⟩ = some (.string g.below) ∧ W.cell? ⟨B + 1, 2, none⟩ = some (.string g.attr) ∧
      W.cell? ⟨B + 1, 3, none⟩ = some (.bool g.all) ∧ W.cell? ⟨B + 1, 4, none⟩ = some (.bool g.self) ∧ W.cell? ⟨B + 1, 5, none⟩ = some (.int .i64 g.kinds) ∧ W.cell? ⟨B + 1, 6, none⟩ = some (.bool g.deny) ∧
      W.cell? ⟨B + 1, 7, none⟩ = some (.string who) ∧ W.cell? ⟨B + 1, 8, none⟩ = some (.string key) ∧ W.cell? ⟨B + 1, 9, none⟩ = some (.string attr) ∧ W.cell? ⟨B + 1, 10, none⟩ = some (.int .i64 kind) := fun W h =>
    ⟨cellk (h.at b0) 0 _ rfl, cellk (h.at b0) 1 _ rfl, cellk (h.at b1) 0 _ rfl, cellk (h.at b1) 1 _ rfl, cellk (h.at b1) 2 _ rfl, cellk (h.at b1) 3 _ rfl, cellk (h.at b1) 4 _ rfl, cellk (h.at b1) 5 _ rfl, cellk (h.at b1) 6 _ rfl, cellk (h.at b1) 7 _ rfl, cellk (h.at b1) 8 _ rfl, cellk (h.at b1) 9 _ rfl, cellk (h.at b1) 10 _ rfl⟩
  clear b0 b1 hB hbel
  have Cell := fun W h => Lib.hid (cell W h)
  clear cell
  cases f1 with
  | false =>
    clear HG HO HS HF1 HF2 HF3 HF4
    obtain ⟨x0, x1, -⟩ := (Cell W0 (Bel.refl _)).out
    clear Cell
    go_wp2_with (first | (go_at_call 7; refine (HF _ Hbel.out).out.mono ?_; rintro e w' ⟨rfl, hb1⟩) | (go_at_call 10; refine (HA _).out.mono ?_; rintro e w' ⟨rfl, hb2⟩))
    go_ret
    exact ⟨rfl, (Hbel.out.trans hb1).trans hb2⟩
  | true =>
  cases f2 with
  | false =>
    clear HO HS HF1 HF2 HF3 HF4
    obtain ⟨x0, x1, -⟩ := (Cell W0 (Bel.refl _)).out
    go_wp2_with (first | (go_at_call 7; refine (HF _ Hbel.out).out.mono ?_; rintro e w1 ⟨rfl, hb1⟩; obtain ⟨y0, y1, y2, y3, y4, y5, y6, y7, y8, y9, y10, y11, y12⟩ := (Cell _ hb1).out) | (go_at_call_has 8 qg; refine (HG _ (Hbel.out.trans hb1)).out.mono ?_; rintro e w' ⟨rfl, hw⟩; subst hw) | (go_at_call 8; refine (HO _ _ (new_at _ _)).out.mono ?_; rintro e w4 ⟨rfl, hw4⟩; have hb4 : Bel W0 w4 := (by rw [hw4]; exact hb1.alloc _); clear hw4; obtain ⟨z0, z1, z2, z3, z4, z5, z6, z7, z8, z9, z10, z11, z12⟩ := (Cell _ hb4).out) | (go_at_call 9; refine (HS _).out.mono ?_; rintro e w2 ⟨rfl, hb2⟩) | (go_at_call 10; refine (HA _).out.mono ?_; rintro e w3 ⟨rfl, hb3⟩))
    go_ret
    exact ⟨rfl, (Hbel.out.trans hb1).trans hb3⟩
  | true =>
  cases f3 with
  | false =>
    clear HS HF1 HF2 HF3 HF4
    obtain ⟨x0, x1, -⟩ := (Cell W0 (Bel.refl _)).out
    go_wp2_with (first | (go_at_call 7; refine (HF _ Hbel.out).out.mono ?_; rintro e w1 ⟨rfl, hb1⟩; obtain ⟨y0, y1, y2, y3, y4, y5, y6, y7, y8, y9, y10, y11, y12⟩ := (Cell _ hb1).out) | (go_at_call_has 8 qg; refine (HG _ (Hbel.out.trans hb1)).out.mono ?_; rintro e w' ⟨rfl, hw⟩; subst hw) | (go_at_call 8; refine (HO _ _ (new_at _ _)).out.mono ?_; rintro e w4 ⟨rfl, hw4⟩; have hb4 : Bel W0 w4 := (by rw [hw4]; exact hb1.alloc _); clear hw4; obtain ⟨z0, z1, z2, z3, z4, z5, z6, z7, z8, z9, z10, z11, z12⟩ := (Cell _ hb4).out) | (go_at_call 9; refine (HS _).out.mono ?_; rintro e w2 ⟨rfl, hb2⟩) | (go_at_call 10; refine (HA _).out.mono ?_; rintro e w3 ⟨rfl, hb3⟩))
    go_ret
    exact ⟨rfl, (Hbel.out.trans hb4).trans hb3⟩
  | true =>
  cases f4 with
  | false =>
    clear HF1 HF2 HF3 HF4
    obtain ⟨x0, x1, -⟩ := (Cell W0 (Bel.refl _)).out
    go_wp2_with (first | (go_at_call 7; refine (HF _ Hbel.out).out.mono ?_; rintro e w1 ⟨rfl, hb1⟩; obtain ⟨y0, y1, y2, y3, y4, y5, y6, y7, y8, y9, y10, y11, y12⟩ := (Cell _ hb1).out) | (go_at_call_has 8 qg; refine (HG _ (Hbel.out.trans hb1)).out.mono ?_; rintro e w' ⟨rfl, hw⟩; subst hw) | (go_at_call 8; refine (HO _ _ (new_at _ _)).out.mono ?_; rintro e w4 ⟨rfl, hw4⟩; have hb4 : Bel W0 w4 := (by rw [hw4]; exact hb1.alloc _); clear hw4; obtain ⟨z0, z1, z2, z3, z4, z5, z6, z7, z8, z9, z10, z11, z12⟩ := (Cell _ hb4).out) | (go_at_call 9; refine (HS _).out.mono ?_; rintro e w2 ⟨rfl, hb2⟩) | (go_at_call 10; refine (HA _).out.mono ?_; rintro e w3 ⟨rfl, hb3⟩))
    go_ret
    exact ⟨rfl, ((Hbel.out.trans hb4).trans hb2).trans hb3⟩
  | true =>
    obtain ⟨x0, x1, -⟩ := (Cell W0 (Bel.refl _)).out
    go_upto_region 3 with (first | (go_at_call 7; refine (HF _ Hbel.out).out.mono ?_; rintro e w1 ⟨rfl, hb1⟩; obtain ⟨y0, y1, y2, y3, y4, y5, y6, y7, y8, y9, y10, y11, y12⟩ := (Cell _ hb1).out) | (go_at_call_has 8 qg; refine (HG _ (Hbel.out.trans hb1)).out.mono ?_; rintro e w' ⟨rfl, hw⟩; subst hw) | (go_at_call 8; refine (HO _ _ (new_at _ _)).out.mono ?_; rintro e w4 ⟨rfl, hw4⟩; have hb4 : Bel W0 w4 := (by rw [hw4]; exact hb1.alloc _); clear hw4; obtain ⟨z0, z1, z2, z3, z4, z5, z6, z7, z8, z9, z10, z11, z12⟩ := (Cell _ hb4).out) | (go_at_call 9; refine (HS _).out.mono ?_; rintro e w2 ⟨rfl, hb2⟩) | (go_at_call 10; refine (HA _).out.mono ?_; rintro e w3 ⟨rfl, hb3⟩))
    obtain ⟨hl, ha, hk, hgl, sl, sx, hsl, hsx, hsn⟩ := few_facts HF1.out HF2.out HF3.out HF4.out
    have hb5 : Bel W0 w2 := Bel.trans hb4 hb2
    clear HF HG HO HS HF1 HF2 HF3 HF4 y0 y1 y2 y3 y4 y5 y6 y7 y8 y9 y10 y11 y12 z0 z1 z2 z3 z4 z5 z6 z7 z8 z9 z10 z11 z12 x0 x1 hb4 hb2 hb1
    obtain ⟨was, hwas⟩ : ∃ b, b = allowedA l sl who key attr kind := ⟨_, rfl⟩
    obtain ⟨now, hnow⟩ : ∃ b, b = allowedA l (sl ++ [sx]) who key attr kind := ⟨_, rfl⟩
    obtain ⟨fit, hfit⟩ : ∃ b, b = fits31 l who key attr kind g := ⟨_, rfl⟩
    have hlaw : now = if fit then !g.deny else was := by rw [hnow, hfit, hwas, last_law, hsx]
    have HLaw := Lib.hid hlaw
    have HW := fun w' (h : Bel W0 w') => Lib.hid (allowed_any l sl who key attr kind (.slice q l.length cap) (.slice qg gs.length capg) qc cs.length capc w' (Hs.out.bel (Hbel.out.trans h)) hl ha hk (by rw [hsl, hsn]; exact Hg.out.bel (Hbel.out.trans h)) (by omega))
    have HN := fun v' w' (h : Bel W0 w') (h' : Sl w' v' 7 (gs.length + 1) (grantCells (gs ++ [g]))) => Lib.hid (allowed_any l (sl ++ [sx]) who key attr kind (.slice q l.length cap) v' qc cs.length capc w' (Hs.out.bel (Hbel.out.trans h)) hl ha hk
      (by rw [show sgs (sl ++ [sx]) = gs ++ [g] by rw [← hsl, ← hsx]; unfold sgs; rw [List.map_append]; rfl, List.length_append, hsn]; exact h') (by rw [List.length_append, List.length_singleton]; omega))
    have HZ := fun w' (h : Bel W0 w') => Lib.hid (allowed_any l [] who key attr kind (.slice q l.length cap) (.slice none 0 0) qc cs.length capc w' (Hs.out.bel (Hbel.out.trans h)) hl ha hk (Sl.nil _ _) (by decide))
    have HT := fun w' (h : Bel W0 w') => Lib.hid (fits31_any g who key attr kind l (.slice q l.length cap) qc cs.length capc w' (Hs.out.bel (Hbel.out.trans h)) hl ha hk (by rw [← hsx]; exact sx.h))
    rw [← hwas] at HW
    rw [← hnow] at HN
    rw [← hfit] at HT
    rw [none_law] at HZ
    unfold gval at HT
    have HGl := Lib.hid hgl
    have Hgs := fun w' (h : Bel W0 w') => Lib.hid (Hg.out.bel (Hbel.out.trans h))
    clear hl ha hk hgl hsl hsx hsn hwas hnow hfit hlaw Hs Hg
    obtain ⟨z0, z1, z2, z3, z4, z5, z6, z7, z8, z9, z10, z11, z12⟩ := (Cell _ hb5).out
    go_upto_region 4 with fail
    have hb6 := hb5.alloc (.cells #[.string who, .string key, .string attr, .int .i64 kind] 28)
    have nA := new_at w2 (.cells #[.string who, .string key, .string attr, .int .i64 kind] 28)
    clear z0 z1 z2 z3 z4 z5 z6 z7 z8 z9 z10 z11 z12 hb5
    generalize hW3 : World.alloc w2 _ = W3 at *
    clear hW3
    obtain ⟨A, hA⟩ : ∃ A, A = w2.heap.size := ⟨_, rfl⟩
    rw [← hA] at nA ⊢
    clear hA
    have CellA := fun W (h : Bel W3 W) => Lib.hid (show W.cell? ⟨A, 0, none⟩ = some (.string who) ∧ W.cell? ⟨A, 1, none⟩ = some (.string key) ∧ W.cell? ⟨A, 2, none⟩ = some (.string attr) ∧ W.cell? ⟨A, 3, none⟩ = some (.int .i64 kind) from ⟨cellk (h.at nA) 0 _ rfl, cellk (h.at nA) 1 _ rfl, cellk (h.at nA) 2 _ rfl, cellk (h.at nA) 3 _ rfl⟩)
    have Hb6 := Lib.hid hb6
    clear hb6 nA
    have CellB := fun W (h : Bel W3 W) => Cell W (Hb6.out.trans h)
    clear Cell
    obtain ⟨a0, a1, a2, a3⟩ := (CellA _ (Bel.refl _)).out
    obtain ⟨z0, z1, z2, z3, z4, z5, z6, z7, z8, z9, z10, z11, z12⟩ := (CellB _ (Bel.refl _)).out
    go_upto_region 5 with (go_at_call 11; refine (HW _ Hb6.out).out.mono ?_; rintro e w5 ⟨rfl, hb5⟩)
    have CellK : ∀ W, Bel w5 W → W.cell? ⟨B, 0, none⟩ = some (.slice q l.length cap) ∧ W.cell? ⟨B, 1, none⟩ = some (.slice qc cs.length capc) ∧ W.cell? ⟨B + 1, 0, none⟩ = some (.string g.who) ∧ W.cell? ⟨B + 1, 1, none⟩ = some (.string g.below) ∧ W.cell? ⟨B + 1, 2, none⟩ = some (.string g.attr) ∧ W.cell? ⟨B + 1, 3, none⟩ = some (.bool g.all) ∧ W.cell? ⟨B + 1, 4, none⟩ = some (.bool g.self) ∧ W.cell? ⟨B + 1, 5, none⟩ = some (.int .i64 g.kinds) ∧ W.cell? ⟨B + 1, 6, none⟩ = some (.bool g.deny) ∧ W.cell? ⟨B + 1, 7, none⟩ = some (.string who) ∧ W.cell? ⟨B + 1, 8, none⟩ = some (.string key) ∧ W.cell? ⟨B + 1, 9, none⟩ = some (.string attr) ∧ W.cell? ⟨B + 1, 10, none⟩ = some (.int .i64 kind) ∧ W.cell? ⟨A, 0, none⟩ = some (.string who) ∧ W.cell? ⟨A, 1, none⟩ = some (.string key) ∧ W.cell? ⟨A, 2, none⟩ = some (.string attr) ∧ W.cell? ⟨A, 3, none⟩ = some (.int .i64 kind) := fun W h => by
      obtain ⟨a0, a1, a2, a3⟩ := (CellA W (hb5.trans h)).out
      obtain ⟨z0, z1, z2, z3, z4, z5, z6, z7, z8, z9, z10, z11, z12⟩ := (CellB W (hb5.trans h)).out
      exact ⟨z0, z1, z2, z3, z4, z5, z6, z7, z8, z9, z10, z11, z12, a0, a1, a2, a3⟩
    have HNN := fun v' w' (h : Bel w5 w') h' => Lib.hid ((HN v' w' ((Hb6.out.trans hb5).trans h) h').out.mono (fun e w'' hh => And.intro hh.1 (h.trans hh.2)))
    have HGG := fun w' (h : Bel w5 w') => (Hgs w' ((Hb6.out.trans hb5).trans h)).out
    have hgl := HGl.out
    have Hb5 := Lib.hid hb5
    clear hb5 z0 z1 z2 z3 z4 z5 z6 z7 z8 z9 z10 z11 z12 a0 a1 a2 a3 HW HN
    have two := fun (o o' : Obj) => (show ((w5.alloc o).alloc o').heap[w5.heap.size + 1]? = some o' from by have h := new_at (w5.alloc o) o'; simpa using h)
    have one := fun (o o' : Obj) => (show ((w5.alloc o).alloc o').heap[w5.heap.size]? = some o from old_at (new_at w5 o) o')
    go_cut [9] from 46 to 62 (fun s9 wx => s9 = .bool now ∧ Bel w5 wx)
    case first =>
      clear HA HZ HT HLaw Hgs HGl CellA CellB
      obtain ⟨z0, z1, z2, z3, z4, z5, z6, z7, z8, z9, z10, z11, z12, a0, a1, a2, a3⟩ := CellK _ (Bel.refl _)
      go_region_held3 (fun w' => w'.cell? ⟨B, 0, none⟩ = some (.slice q l.length cap) ∧ w'.cell? ⟨B, 1, none⟩ = some (.slice qc cs.length capc) ∧ w'.cell? ⟨B + 1, 0, none⟩ = some (.string g.who) ∧ w'.cell? ⟨B + 1, 1, none⟩ = some (.string g.below) ∧ w'.cell? ⟨B + 1, 2, none⟩ = some (.string g.attr) ∧ w'.cell? ⟨B + 1, 3, none⟩ = some (.bool g.all) ∧ w'.cell? ⟨B + 1, 4, none⟩ = some (.bool g.self) ∧ w'.cell? ⟨B + 1, 5, none⟩ = some (.int .i64 g.kinds) ∧ w'.cell? ⟨B + 1, 6, none⟩ = some (.bool g.deny) ∧ w'.cell? ⟨B + 1, 7, none⟩ = some (.string who) ∧ w'.cell? ⟨B + 1, 8, none⟩ = some (.string key) ∧ w'.cell? ⟨B + 1, 9, none⟩ = some (.string attr) ∧ w'.cell? ⟨B + 1, 10, none⟩ = some (.int .i64 kind) ∧ w'.cell? ⟨A, 0, none⟩ = some (.string who) ∧ w'.cell? ⟨A, 1, none⟩ = some (.string key) ∧ w'.cell? ⟨A, 2, none⟩ = some (.string attr) ∧ w'.cell? ⟨A, 3, none⟩ = some (.int .i64 kind)) (first | exact CellK _ (by repeat first | assumption | exact Bel.refl _ | refine Bel.alloc ?_ _ | refine Bel.drew ?_) | go_keep)
        (first
          | (refine step_app w5 (by rfl) _ _ (by rfl) (.slice (some ⟨_, 0, none⟩) 0 0) (.slice qg gs.length capg) 0 gs.length [] (grantCells gs) (by rfl) (by rfl) (by repeat first | assumption | exact Bel.refl _ | refine Bel.alloc ?_ _ | refine Bel.drew ?_) (own0 (by first | exact new_at _ _ | exact two _ _ | exact one _ _) (by first | exact Nat.le_refl _ | exact Nat.le_succ _ | (simp; done))) (HGG _ (by repeat first | assumption | exact Bel.refl _ | refine Bel.alloc ?_ _ | refine Bel.drew ?_)) (grant_one gs) (by omega) ?_; intro v1 w6 hown1 hgrow1 hb61)
          | (refine step_app w5 (by rfl) _ _ (by rfl) v1 (.slice (some ⟨_, 0, none⟩) 1 1) (0 + gs.length) 1 ([] ++ grantCells gs) (grantCells [g]) (by rfl) (by rfl) (by repeat first | assumption | exact Bel.refl _ | refine Bel.alloc ?_ _ | refine Bel.drew ?_) (by first | exact hown1 | exact hown1.alloc _) (sl_one g (by first | exact new_at _ _ | exact (hgrow1.block (w5.heap.size + 1) (by simp <;> omega) (by simp [Value.ownBlock])).trans (two _ _) | exact (hgrow1.block w5.heap.size (by simp <;> omega) (by simp [Value.ownBlock])).trans (one _ _))) (grant_one _) (by omega) ?_; intro v2 w7 hown2 hgrow2 hb7)
          | (go_at_call 11; refine (HNN v2 _ (by repeat first | assumption | exact Bel.refl _ | refine Bel.alloc ?_ _ | refine Bel.drew ?_) (by have h := Sl.own hown2; rw [List.nil_append, ← grantCells_app, Nat.zero_add] at h; exact h)).out.mono ?_; rintro e w8 ⟨rfl, hb8⟩))
      all_goals (go_wp2; go_meet; exact ⟨rfl, hb8⟩)
    case rest =>
      obtain ⟨rfl, hb9⟩ := hcut
      have hlaw := HLaw.out
      have hbW := (Hb6.out.trans Hb5.out).trans hb9
      obtain ⟨z0, z1, z2, z3, z4, z5, z6, z7, z8, z9, z10, z11, z12, a0, a1, a2, a3⟩ := CellK _ hb9
      clear HNN HGG Hgs CellA CellB HLaw HGl two one
      have HbW := Lib.hid hbW
      have Hb9 := Lib.hid hb9
      clear hb9 hbW
      cases fit with
      | false =>
        simp only [Bool.false_eq_true, if_false] at hlaw
        subst hlaw
        cases now
        · go_wp2_with (first | (go_at_call 18; refine (HT _ HbW.out).out.mono ?_; rintro e w10 ⟨rfl, hb10⟩; obtain ⟨x0, x1, x2, x3, x4, x5, x6, x7, x8, x9, x10, x11, x12, b0, b1, b2, b3⟩ := CellK _ (Hb9.out.trans hb10)) | (go_at_call 11; refine (HZ _ (HbW.out.trans hb10)).out.mono ?_; rintro e w11 ⟨rfl, hb11⟩) | (go_at_call 10; refine (HA _).out.mono ?_; rintro e w12 ⟨rfl, hb12⟩))
          go_ret
          exact ⟨rfl, (((Hbel.out.trans HbW.out).trans hb10).trans hb11).trans hb12⟩
        · go_wp2_with (first | (go_at_call 18; refine (HT _ HbW.out).out.mono ?_; rintro e w10 ⟨rfl, hb10⟩; obtain ⟨x0, x1, x2, x3, x4, x5, x6, x7, x8, x9, x10, x11, x12, b0, b1, b2, b3⟩ := CellK _ (Hb9.out.trans hb10)) | (go_at_call 11; refine (HZ _ (HbW.out.trans hb10)).out.mono ?_; rintro e w11 ⟨rfl, hb11⟩) | (go_at_call 10; refine (HA _).out.mono ?_; rintro e w12 ⟨rfl, hb12⟩))
          go_ret
          exact ⟨rfl, (((Hbel.out.trans HbW.out).trans hb10).trans hb11).trans hb12⟩
      | true =>
        simp only [if_true] at hlaw
        generalize g.deny = d at *
        subst hlaw
        cases d
        · go_wp2_with (first | (go_at_call 18; refine (HT _ HbW.out).out.mono ?_; rintro e w10 ⟨rfl, hb10⟩; obtain ⟨x0, x1, x2, x3, x4, x5, x6, x7, x8, x9, x10, x11, x12, b0, b1, b2, b3⟩ := CellK _ (Hb9.out.trans hb10)) | (go_at_call 11; refine (HZ _ (HbW.out.trans hb10)).out.mono ?_; rintro e w11 ⟨rfl, hb11⟩) | (go_at_call 10; refine (HA _).out.mono ?_; rintro e w12 ⟨rfl, hb12⟩))
          go_ret
          exact ⟨rfl, (((Hbel.out.trans HbW.out).trans hb10).trans hb11).trans hb12⟩
        · go_wp2_with (first | (go_at_call 18; refine (HT _ HbW.out).out.mono ?_; rintro e w10 ⟨rfl, hb10⟩; obtain ⟨x0, x1, x2, x3, x4, x5, x6, x7, x8, x9, x10, x11, x12, b0, b1, b2, b3⟩ := CellK _ (Hb9.out.trans hb10)) | (go_at_call 11; refine (HZ _ (HbW.out.trans hb10)).out.mono ?_; rintro e w11 ⟨rfl, hb11⟩) | (go_at_call 10; refine (HA _).out.mono ?_; rintro e w12 ⟨rfl, hb12⟩))
          go_ret
          exact ⟨rfl, (((Hbel.out.trans HbW.out).trans hb10).trans hb11).trans hb12⟩
end Go.Proofs.YtljeeehimcdmbaaGreatDoor
