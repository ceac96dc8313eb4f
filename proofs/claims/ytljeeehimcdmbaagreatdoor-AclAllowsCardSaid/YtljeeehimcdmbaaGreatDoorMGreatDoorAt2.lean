/- The walks of attrs.find, attrs.has, dn.Word, syntax.Known. No condition. -/
import Derived.Test.YtljeeehimcdmbaaGreatDoorMGreatDoorAt1
namespace Go.Proofs.YtljeeehimcdmbaaGreatDoor
open Go.RowKit Go.Wd Go.Dir

theorem find_any (l : List Attr) (v : Value) (name : ByteArray) (w : World) (hs : Sl w v 6 l.length (attrCells l)) (hn : l.length < 1000000) :
    Calls Tryz.prog 65 #[v, .string name] w fun e w' => e = .returned (.tuple #[(match find l name with | some a => a.val | none => Attr.none.val), .bool (find l name).isSome]) ∧ Bel w w' := by
  obtain ⟨r, hr⟩ : ∃ r, r = find l name := ⟨_, rfl⟩
  rw [← hr]
  go_enter Tryz.func65, Tryz.ntmps65
  have H := fun w' (h : Bel w w') => Lib.hid (search_any l v name w' (hs.bel h) hn)
  have hv : ∃ a cap, v = .slice a l.length cap := by obtain ⟨_, a, cap, h, _⟩ := hs; exact ⟨a, cap, h⟩
  obtain ⟨a, cap, rfl⟩ := hv
  go_wp2_with fail
  refine (H _ ((Bel.refl _).alloc _)).out.mono ?_
  rintro e w' ⟨rfl, hb'⟩
  have Hb := Lib.hid hb'
  have hob := hb'.at (new_at w _)
  have z0 := cellk hob 0 _ rfl
  have y0 := freek hob 0
  have z1 := cellk hob 1 _ rfl
  have y1 := freek hob 1
  have z2 := cellk hob 2 _ rfl
  have y2 := freek hob 2
  have z3 := cellk hob 3 _ rfl
  have y3 := freek hob 3
  have z4 := cellk hob 4 _ rfl
  have y4 := freek hob 4
  have z5 := cellk hob 5 _ rfl
  have y5 := freek hob 5
  have Hob := Lib.hid hob
  clear hob
  clear H
  by_cases hpl : place l name < l.length
  · obtain ⟨b, off, cap', e, c0, c1, c2, c3, c4, c5⟩ := attr_at (hs.bel (((Bel.refl _).alloc _).trans hb')) (place l name) hpl
    cases e
    have hfind : find l name = if (l.getD (place l name) Attr.none).name = name then some (l.getD (place l name) Attr.none) else none := by unfold find; rw [if_pos hpl]
    rw [hfind] at hr
    rw [decide_eq_true hpl, Bool.true_and]
    clear hfind hs hb'
    generalize l.getD (place l name) Attr.none = A at *
    generalize place l name = p at *
    by_cases hA : A.name = name
    · rw [if_pos hA] at hr
      subst hr
      rw [decide_eq_true hA]
      go_wp2
      have hB := (((Bel.refl _).alloc _).trans Hb.out).set6 (Nat.le_refl _) (.string name) (.string A.above) (.int .i64 A.syn) (.int .i64 A.rule) (.bool A.single) (.bool A.closed)
      have hR := at_set6 Hob.out (.string name) (.string A.above) (.int .i64 A.syn) (.int .i64 A.rule) (.bool A.single) (.bool A.closed)
      have q0 := cellk hR 0 _ rfl
      have q1 := cellk hR 1 _ rfl
      have q2 := cellk hR 2 _ rfl
      have q3 := cellk hR 3 _ rfl
      have q4 := cellk hR 4 _ rfl
      have q5 := cellk hR 5 _ rfl
      refine bodyPost_ret (by simp [results, Tryz.results65, go_sem, q0, q1, q2, q3, q4, q5]; try rfl) rfl ?_
      exact ⟨by subst hA; rfl, hB⟩
    · rw [if_neg hA] at hr
      subst hr
      rw [decide_eq_false hA]
      go_wp2
      have hB := (((Bel.refl _).alloc _).trans Hb.out).set6 (Nat.le_refl _) (.string ⟨#[]⟩) (.string ⟨#[]⟩) (.int .i64 0) (.int .i64 0) (.bool false) (.bool false)
      have hR := at_set6 Hob.out (.string ⟨#[]⟩) (.string ⟨#[]⟩) (.int .i64 0) (.int .i64 0) (.bool false) (.bool false)
      have q0 := cellk hR 0 _ rfl
      have q1 := cellk hR 1 _ rfl
      have q2 := cellk hR 2 _ rfl
      have q3 := cellk hR 3 _ rfl
      have q4 := cellk hR 4 _ rfl
      have q5 := cellk hR 5 _ rfl
      refine bodyPost_ret (by simp [results, Tryz.results65, go_sem, q0, q1, q2, q3, q4, q5]; try rfl) rfl ?_
      exact ⟨rfl, hB⟩
  · have hfind : find l name = none := by unfold find; rw [if_neg hpl]
    rw [hfind] at hr
    subst hr
    rw [decide_eq_false hpl, Bool.false_and]
    clear hfind hs hb'
    generalize place l name = p at *
    go_wp2
    have hB := (((Bel.refl _).alloc _).trans Hb.out).set6 (Nat.le_refl _) (.string ⟨#[]⟩) (.string ⟨#[]⟩) (.int .i64 0) (.int .i64 0) (.bool false) (.bool false)
    have hR := at_set6 Hob.out (.string ⟨#[]⟩) (.string ⟨#[]⟩) (.int .i64 0) (.int .i64 0) (.bool false) (.bool false)
    have q0 := cellk hR 0 _ rfl
    have q1 := cellk hR 1 _ rfl
    have q2 := cellk hR 2 _ rfl
    have q3 := cellk hR 3 _ rfl
    have q4 := cellk hR 4 _ rfl
    have q5 := cellk hR 5 _ rfl
    refine bodyPost_ret (by simp [results, Tryz.results65, go_sem, q0, q1, q2, q3, q4, q5]; try rfl) rfl ?_
    exact ⟨rfl, hB⟩

theorem known_any (n : Int) (w : World) : Calls Tryz.prog 99 #[.int .i64 n] w fun e w' => e = .returned (.bool (known n)) ∧ w' = w := by
  go_enter Tryz.func99, Tryz.ntmps99
  by_cases h1 : 1 ≤ n
  · by_cases h2 : n ≤ 10
    · go_wp2
      go_ret
      exact ⟨by simp [known, h1, h2], rfl⟩
    · go_wp2
      go_ret
      exact ⟨by simp [known, h1, h2], rfl⟩
  · go_wp2
    go_ret
    exact ⟨by simp [known]; omega, rfl⟩
end Go.Proofs.YtljeeehimcdmbaaGreatDoor
