/- The walk of toponymlaw31.AclAllows. No condition. -/
import Derived.Test.YtljeeehimcdmbaaGreatDoorMGreatDoorAl9
import Derived.Sort.AtCall
namespace Go.Proofs.YtljeeehimcdmbaaGreatDoor
open Go.RowKit Go.Wd Go.Dir Go.Shelf

theorem few_facts2 {l : List Attr} {cs : List Cls} {gs : List Grant} {who key attr : ByteArray} (h1 : true = fewS l cs) (h2 : true = fewL gs) (h4 : true = shortQ who key attr) :
    l.length < 100000 ∧ (∀ a ∈ l, shortA a) ∧ key.size ≤ 1000000 ∧ gs.length ≤ 30 ∧ ∃ sl : List SG, sgs sl = gs ∧ sl.length = gs.length := by
  simp only [fewS, fewA, fewL, shortQ, Bool.and_eq_true, decide_eq_true_eq, List.all_eq_true, fewT, fewG, eq_comm (a := true)] at h1 h2 h4
  refine ⟨by omega, fun a ha => ⟨by have := h1.1.2 a ha; omega, by have := h1.1.2 a ha; omega⟩, by omega, h2.1, ?_⟩
  obtain ⟨sl, e⟩ := sgs_of gs (fun x hx => by have := h2.2 x hx; omega)
  exact ⟨sl, e, by rw [← e]; exact (sgs_len sl).symm⟩

set_option maxRecDepth 100000 in
set_option maxHeartbeats 1000000 in
theorem allows_any (hawk : ∀ w, Calls Tryz.prog 10 #[] w fun en w' => en = .returned (.bool true) ∧ Below w.heap.size w w')
    (l : List Attr) (cs : List Cls) (v u gv : Value) (gs : List Grant) (who key attr : ByteArray) (kind : Int) (w : World)
    (hs : Sl w v 6 l.length (attrCells l)) (hc : Sl w u 5 cs.length (clsCells cs)) (hg : Sl w gv 7 gs.length (grantCells gs)) :
    Calls Tryz.prog 3 #[.agg #[v, u], gv, .agg #[.string who, .string key, .string attr, .int .i64 kind]] w fun e w' => e = .returned (.bool true) ∧ Bel w w' := by
  have HA := fun w' => Lib.hid (hawk w')
  have HF := fun w' (h : Bel w w') => Lib.hid (few21_any l cs v u w' (hs.bel h) (hc.bel h))
  have HG := fun w' (h : Bel w w') => Lib.hid (few_any gs gv w' (hg.bel h))
  have HS := fun w' => Lib.hid (short_any who key attr kind w')
  clear hawk
  obtain ⟨q, cap, rfl⟩ : ∃ q cap, v = .slice q l.length cap := by obtain ⟨_, q, cap, h, _⟩ := hs; exact ⟨q, cap, h⟩
  obtain ⟨qc, capc, rfl⟩ : ∃ q cap, u = .slice q cs.length cap := by obtain ⟨_, q, cap, h, _⟩ := hc; exact ⟨q, cap, h⟩
  obtain ⟨qg, capg, rfl⟩ : ∃ q cap, gv = .slice q gs.length cap := by obtain ⟨_, q, cap, h, _⟩ := hg; exact ⟨q, cap, h⟩
  have Hs := Lib.hid hs
  have Hg := Lib.hid hg
  clear hs hc hg
  obtain ⟨f1, hf1⟩ : ∃ b, b = fewS l cs := ⟨_, rfl⟩
  obtain ⟨f2, hf2⟩ : ∃ b, b = fewL gs := ⟨_, rfl⟩
  obtain ⟨f4, hf4⟩ : ∃ b, b = shortQ who key attr := ⟨_, rfl⟩
  rw [← hf1] at HF
  rw [← hf2] at HG
  rw [← hf4] at HS
  have HF1 := Lib.hid hf1
  have HF2 := Lib.hid hf2
  have HF4 := Lib.hid hf4
  clear hf1 hf2 hf4
  go_enter Tryz.func3, Tryz.ntmps3
  go_upto_region 1 with fail
  have hbel := ((Bel.refl w).alloc (.cells #[.slice q l.length cap, .slice qc cs.length capc] 25)).alloc (.cells #[.string who, .string key, .string attr, .int .i64 kind] 28)
  have b1 := new_at (w.alloc (.cells #[.slice q l.length cap, .slice qc cs.length capc] 25)) (.cells #[.string who, .string key, .string attr, .int .i64 kind] 28)
  have b0 := old_at (new_at w (.cells #[.slice q l.length cap, .slice qc cs.length capc] 25)) (.cells #[.string who, .string key, .string attr, .int .i64 kind] 28)
  simp only [World.size_alloc] at b0 b1 ⊢
  generalize hW0 : World.alloc (World.alloc _ _) _ = W0 at *
  clear hW0
  have cell : ∀ W, Bel W0 W → W.cell? ⟨w.heap.size, 0, none⟩ = some (.slice q l.length cap) ∧ W.cell? ⟨w.heap.size, 1, none⟩ = some (.slice qc cs.length capc) ∧
      W.cell? ⟨w.heap.size + 1, 0, none⟩ = some (.string who) ∧ W.cell? ⟨w.heap.size + 1, 1, none⟩ = some (.string key) ∧ W.cell? ⟨w.heap.size + 1, 2, none⟩ = some (.string attr) ∧ W.cell? ⟨w.heap.size + 1, 3, none⟩ = some (.int .i64 kind) := fun W h =>
    ⟨cellk (h.at b0) 0 _ rfl, cellk (h.at b0) 1 _ rfl, cellk (h.at b1) 0 _ rfl, cellk (h.at b1) 1 _ rfl, cellk (h.at b1) 2 _ rfl, cellk (h.at b1) 3 _ rfl⟩
  clear b0 b1
  generalize w.heap.size = B at cell ⊢
  have Hbel := Lib.hid hbel
  have Cell := fun W h => Lib.hid (cell W h)
  clear cell hbel
  cases f1 with
  | false =>
    clear HG HS HF1 HF2 HF4
    obtain ⟨x0, x1, -⟩ := (Cell W0 (Bel.refl _)).out
    clear Cell
    go_wp2_with (first | (go_at_call 7; refine (HF _ Hbel.out).out.mono ?_; rintro e w' ⟨rfl, hb1⟩) | (go_at_call 10; refine (HA _).out.mono ?_; rintro e w' ⟨rfl, hb2⟩))
    go_ret
    exact ⟨rfl, (Hbel.out.trans hb1).trans hb2⟩
  | true =>
  cases f2 with
  | false =>
    clear HS HF1 HF2 HF4
    obtain ⟨x0, x1, -⟩ := (Cell W0 (Bel.refl _)).out
    go_wp2_with (first | (go_at_call 7; refine (HF _ Hbel.out).out.mono ?_; rintro e w1 ⟨rfl, hb1⟩) | (go_at_call 8; refine (HG _ (Hbel.out.trans hb1)).out.mono ?_; rintro e w' ⟨rfl, hw⟩; subst hw) | (go_at_call 10; refine (HA _).out.mono ?_; rintro e w3 ⟨rfl, hb3⟩))
    go_ret
    exact ⟨rfl, (Hbel.out.trans hb1).trans hb3⟩
  | true =>
  cases f4 with
  | false =>
    clear HF1 HF2 HF4
    obtain ⟨x0, x1, -⟩ := (Cell W0 (Bel.refl _)).out
    go_wp2_with (first | (go_at_call 7; refine (HF _ Hbel.out).out.mono ?_; rintro e w1 ⟨rfl, hb1⟩; obtain ⟨y0, y1, y2, y3, y4, y5⟩ := (Cell _ hb1).out) | (go_at_call 8; refine (HG _ (Hbel.out.trans hb1)).out.mono ?_; rintro e w' ⟨rfl, hw⟩; subst hw) | (go_at_call 9; refine (HS _).out.mono ?_; rintro e w2 ⟨rfl, hb2⟩) | (go_at_call 10; refine (HA _).out.mono ?_; rintro e w3 ⟨rfl, hb3⟩))
    go_ret
    exact ⟨rfl, ((Hbel.out.trans hb1).trans hb2).trans hb3⟩
  | true =>
    obtain ⟨x0, x1, -⟩ := (Cell W0 (Bel.refl _)).out
    go_upto_region 3 with (first | (go_at_call 7; refine (HF _ Hbel.out).out.mono ?_; rintro e w1 ⟨rfl, hb1⟩; obtain ⟨y0, y1, y2, y3, y4, y5⟩ := (Cell _ hb1).out) | (go_at_call 8; refine (HG _ (Hbel.out.trans hb1)).out.mono ?_; rintro e w' ⟨rfl, hw⟩; subst hw) | (go_at_call 9; refine (HS _).out.mono ?_; rintro e w2 ⟨rfl, hb2⟩))
    obtain ⟨hl, ha, hk, hgl, sl, hsl, hsn⟩ := few_facts2 HF1.out HF2.out HF4.out
    have hb5 : Bel W0 w2 := Bel.trans hb1 hb2
    clear HF HG HS HF1 HF2 HF4 y0 y1 y2 y3 y4 y5 x0 x1 hb2 hb1
    have HW := fun w' (h : Bel W0 w') => Lib.hid (allowed_any l sl who key attr kind (.slice q l.length cap) (.slice qg gs.length capg) qc cs.length capc w' (Hs.out.bel (Hbel.out.trans h)) hl ha hk (by rw [hsl, hsn]; exact Hg.out.bel (Hbel.out.trans h)) (by omega))
    have HP := fun w' (h : Bel W0 w') => Lib.hid (plain_any gs (.slice qg gs.length capg) w' (Hg.out.bel (Hbel.out.trans h)) hgl)
    have HR := fun v' w' (h : Bel W0 w') (h' : Sl w' v' 7 gs.length (grantCells gs)) => Lib.hid (refAllowed_any l sl who key attr kind (.slice q l.length cap) v' qc cs.length capc w' (Hs.out.bel (Hbel.out.trans h)) hl ha hk (by rw [hsl, hsn]; exact h') (by omega))
    generalize allowedA l sl who key attr kind = x at HW HR
    clear hl ha hk hgl hsl hsn Hs Hg
    obtain ⟨z0, z1, z2, z3, z4, z5⟩ := (Cell _ hb5).out
    have HA2 := fun w' => (HA w').out
    cases x with
    | true =>
      go_region_held3 (fun w' => w'.cell? ⟨B, 0, none⟩ = some (.slice q l.length cap) ∧ w'.cell? ⟨B, 1, none⟩ = some (.slice qc cs.length capc) ∧ w'.cell? ⟨B + 1, 0, none⟩ = some (.string who) ∧ w'.cell? ⟨B + 1, 1, none⟩ = some (.string key) ∧ w'.cell? ⟨B + 1, 2, none⟩ = some (.string attr) ∧ w'.cell? ⟨B + 1, 3, none⟩ = some (.int .i64 kind)) (first | exact (Cell _ (by repeat first | assumption | exact Bel.refl _ | refine Bel.alloc ?_ _ | refine Bel.drew ?_)).out | go_keep)
        (first
          | (go_at_call 11; refine (HW _ (by repeat first | assumption | exact Bel.refl _ | refine Bel.alloc ?_ _ | refine Bel.drew ?_)).out.mono ?_; rintro e w6 ⟨rfl, hb6'⟩; have hb6 : Bel W0 w6 := Bel.trans (by repeat first | assumption | exact Bel.refl _ | refine Bel.alloc ?_ _ | refine Bel.drew ?_) hb6')
          | (go_at_call 13; refine (HP _ (by repeat first | assumption | exact Bel.refl _ | refine Bel.alloc ?_ _ | refine Bel.drew ?_)).out.mono ?_; rintro e w7 ⟨u7, rfl, hS7, hb7'⟩; have hb7 : Bel W0 w7 := Bel.trans (by repeat first | assumption | exact Bel.refl _ | refine Bel.alloc ?_ _ | refine Bel.drew ?_) hb7')
          | (go_at_call 12; refine (HR u7 _ (by repeat first | assumption | exact Bel.refl _ | refine Bel.alloc ?_ _ | refine Bel.drew ?_) (hS7.bel (by repeat first | assumption | exact Bel.refl _ | refine Bel.alloc ?_ _ | refine Bel.drew ?_))).out.mono ?_; rintro e w8 ⟨rfl, hb8'⟩; have hb8 : Bel W0 w8 := Bel.trans (by repeat first | assumption | exact Bel.refl _ | refine Bel.alloc ?_ _ | refine Bel.drew ?_) hb8')
          | (go_at_call 10; refine (HA2 _).mono ?_; rintro e w9 ⟨rfl, hb9'⟩; have hb9 : Bel W0 w9 := Bel.trans (by repeat first | assumption | exact Bel.refl _ | refine Bel.alloc ?_ _ | refine Bel.drew ?_) hb9'))
      all_goals (go_wp2; go_ret; exact ⟨rfl, Hbel.out.trans hb9⟩)
    | false =>
      go_region_held3 (fun w' => w'.cell? ⟨B, 0, none⟩ = some (.slice q l.length cap) ∧ w'.cell? ⟨B, 1, none⟩ = some (.slice qc cs.length capc) ∧ w'.cell? ⟨B + 1, 0, none⟩ = some (.string who) ∧ w'.cell? ⟨B + 1, 1, none⟩ = some (.string key) ∧ w'.cell? ⟨B + 1, 2, none⟩ = some (.string attr) ∧ w'.cell? ⟨B + 1, 3, none⟩ = some (.int .i64 kind)) (first | exact (Cell _ (by repeat first | assumption | exact Bel.refl _ | refine Bel.alloc ?_ _ | refine Bel.drew ?_)).out | go_keep)
        (first
          | (go_at_call 11; refine (HW _ (by repeat first | assumption | exact Bel.refl _ | refine Bel.alloc ?_ _ | refine Bel.drew ?_)).out.mono ?_; rintro e w6 ⟨rfl, hb6'⟩; have hb6 : Bel W0 w6 := Bel.trans (by repeat first | assumption | exact Bel.refl _ | refine Bel.alloc ?_ _ | refine Bel.drew ?_) hb6')
          | (go_at_call 13; refine (HP _ (by repeat first | assumption | exact Bel.refl _ | refine Bel.alloc ?_ _ | refine Bel.drew ?_)).out.mono ?_; rintro e w7 ⟨u7, rfl, hS7, hb7'⟩; have hb7 : Bel W0 w7 := Bel.trans (by repeat first | assumption | exact Bel.refl _ | refine Bel.alloc ?_ _ | refine Bel.drew ?_) hb7')
          | (go_at_call 12; refine (HR u7 _ (by repeat first | assumption | exact Bel.refl _ | refine Bel.alloc ?_ _ | refine Bel.drew ?_) (hS7.bel (by repeat first | assumption | exact Bel.refl _ | refine Bel.alloc ?_ _ | refine Bel.drew ?_))).out.mono ?_; rintro e w8 ⟨rfl, hb8'⟩; have hb8 : Bel W0 w8 := Bel.trans (by repeat first | assumption | exact Bel.refl _ | refine Bel.alloc ?_ _ | refine Bel.drew ?_) hb8')
          | (go_at_call 10; refine (HA2 _).mono ?_; rintro e w9 ⟨rfl, hb9'⟩; have hb9 : Bel W0 w9 := Bel.trans (by repeat first | assumption | exact Bel.refl _ | refine Bel.alloc ?_ _ | refine Bel.drew ?_) hb9'))
      all_goals (go_wp2; go_ret; exact ⟨rfl, Hbel.out.trans hb9⟩)
end Go.Proofs.YtljeeehimcdmbaaGreatDoor
