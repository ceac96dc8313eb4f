/- The walk of attrs.sane. No condition. -/
import Derived.Test.YtljeeehimcdmbaaGreatDoorMGreatDoorAt3
namespace Go.Proofs.YtljeeehimcdmbaaGreatDoor
open Go.RowKit Go.Wd Go.Dir

def shortA (a : Attr) : Prop := a.name.size < 1000000 ∧ a.above.size < 1000000

theorem sane_any (l : List Attr) (v : Value) (a : Attr) (w : World) (hs : Sl w v 6 l.length (attrCells l)) (hn : l.length < 1000000) (ha : shortA a) :
    Calls Tryz.prog 57 #[v, a.val] w fun e w' => e = .returned (.bool (sane l a)) ∧ Bel w w' := by
  obtain ⟨r, hr⟩ : ∃ r, r = sane l a := ⟨_, rfl⟩
  rw [← hr]
  unfold sane at hr
  have Hr := Lib.hid hr
  have HF := fun w' (h : Bel w w') => Lib.hid (find_any l v a.above w' (hs.bel h) hn)
  have HW := fun w' => Lib.hid (word_any a.name ha.1 w')
  have HH := fun w' => Lib.hid (has_any a.syn a.rule w')
  clear hr
  have hv : ∃ q cap, v = .slice q l.length cap := by obtain ⟨_, q, cap, h, _⟩ := hs; exact ⟨q, cap, h⟩
  obtain ⟨q, cap, rfl⟩ := hv
  have Hs := Lib.hid hs
  have Ha := Lib.hid ha
  clear hs ha
  unfold Attr.val
  obtain ⟨name, above, syn, rule, single, closed⟩ := a
  simp only at *
  generalize word name = bw at *
  generalize has syn rule = bh at *
  go_enter Tryz.func57, Tryz.ntmps57
  cases bw
  · go_wp2_with fail
    refine (HW _).out.mono ?_
    rintro e w' ⟨rfl, rfl⟩
    go_wp2
    go_ret
    exact ⟨by rw [Hr.out]; rfl, (Bel.refl _).alloc _⟩
  cases bh
  · go_wp2_with fail
    refine (HW _).out.mono ?_
    rintro e w' ⟨rfl, rfl⟩
    go_wp2_with fail
    refine (HH _).out.mono ?_
    rintro e w' ⟨rfl, rfl⟩
    go_wp2
    go_ret
    exact ⟨by rw [Hr.out]; rfl, (Bel.refl _).alloc _⟩
  by_cases h0 : above.size = 0
  · have e : above = ⟨#[]⟩ := by cases above with | mk d => congr 1; exact Array.size_eq_zero_iff.1 h0
    subst e
    go_wp2_with fail
    refine (HW _).out.mono ?_
    rintro e w' ⟨rfl, rfl⟩
    go_wp2_with fail
    refine (HH _).out.mono ?_
    rintro e w' ⟨rfl, rfl⟩
    go_wp2
    go_ret
    exact ⟨by rw [Hr.out]; rfl, (Bel.refl _).alloc _⟩
  have hne : ¬ above.toList = [] := by
    rw [Lib.toList_data]; intro h
    have := congrArg List.length h
    rw [Array.length_toList] at this
    exact h0 this
  have hne2 : above.toList.isEmpty = false := by cases h : above.toList with | nil => exact absurd h hne | cons _ _ => rfl
  generalize find l above = f at *
  cases f with
  | none =>
    go_wp2_with fail
    refine (HW _).out.mono ?_
    rintro e w' ⟨rfl, rfl⟩
    go_wp2_with fail
    refine (HH _).out.mono ?_
    rintro e w' ⟨rfl, rfl⟩
    go_wp2_with fail
    refine (HF _ ((Bel.refl _).alloc _)).out.mono ?_
    rintro e w' ⟨rfl, hb⟩
    have Hb := Lib.hid hb
    clear hb
    dsimp only [Attr.val, Attr.none, Option.isSome]
    go_wp2
    go_ret
    exact ⟨by rw [Hr.out]; simp [h0], (((Bel.refl _).alloc _).trans Hb.out).alloc _⟩
  | some b =>
    by_cases hsy : b.syn = syn
    · have e1 : (b.syn == syn) = true := by simp [hsy]
      go_wp2_with fail
      refine (HW _).out.mono ?_
      rintro e w' ⟨rfl, rfl⟩
      go_wp2_with fail
      refine (HH _).out.mono ?_
      rintro e w' ⟨rfl, rfl⟩
      go_wp2_with fail
      refine (HF _ ((Bel.refl _).alloc _)).out.mono ?_
      rintro e w' ⟨rfl, hb⟩
      have hob := hb.at (new_at w _)
      have z2 := cellk hob 2 _ rfl
      have x2 := fun o => cellk (old_at hob o) 2 _ rfl
      have Hb := Lib.hid hb
      have Hob := Lib.hid hob
      clear hb hob
      dsimp only [Attr.val, Option.isSome]
      go_wp2

      go_ret
      exact ⟨by rw [Hr.out]; simp [h0, hsy], (((Bel.refl _).alloc _).trans Hb.out).alloc _⟩
    · have e1 : (b.syn == syn) = false := by simp [hsy]
      go_wp2_with fail
      refine (HW _).out.mono ?_
      rintro e w' ⟨rfl, rfl⟩
      go_wp2_with fail
      refine (HH _).out.mono ?_
      rintro e w' ⟨rfl, rfl⟩
      go_wp2_with fail
      refine (HF _ ((Bel.refl _).alloc _)).out.mono ?_
      rintro e w' ⟨rfl, hb⟩
      have hob := hb.at (new_at w _)
      have z2 := cellk hob 2 _ rfl
      have x2 := fun o => cellk (old_at hob o) 2 _ rfl
      have Hb := Lib.hid hb
      have Hob := Lib.hid hob
      clear hb hob
      dsimp only [Attr.val, Option.isSome]
      go_wp2

      go_ret
      exact ⟨by rw [Hr.out]; simp [h0, hsy], (((Bel.refl _).alloc _).trans Hb.out).alloc _⟩
end Go.Proofs.YtljeeehimcdmbaaGreatDoor
