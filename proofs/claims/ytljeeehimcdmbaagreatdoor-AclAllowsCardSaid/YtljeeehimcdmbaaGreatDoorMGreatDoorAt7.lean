/- The walk of attrs.Find. No condition. -/
import Derived.Test.YtljeeehimcdmbaaGreatDoorMGreatDoorAt6
namespace Go.Proofs.YtljeeehimcdmbaaGreatDoor
open Go.RowKit Go.Wd Go.Dir

/-- What attrs.Find tells. -/
def findC (l : List Attr) (name : ByteArray) : Option Attr := if checkA l then find l name else none

theorem findP_core (q : Option Addr) (m cap : Nat) (name : ByteArray) (w : World) (A : Attr) (ok : Bool) (HC : ∀ w', Bel w w' → Hid (Calls Tryz.prog 43 #[.slice q m cap] w' fun e W' => e = .returned (.int .i64 0) ∧ Bel w' W'))
    (HF : ∀ w', Bel w w' → Hid (Calls Tryz.prog 65 #[.slice q m cap, .string name] w' fun e W' => e = .returned (.tuple #[A.val, .bool ok]) ∧ Bel w' W')) :
    Calls Tryz.prog 48 #[.slice q m cap, .string name] w fun e w' => e = .returned (.tuple #[A.val, .bool ok]) ∧ Bel w w' := by
  unfold Attr.val at *
  go_enter Tryz.func48, Tryz.ntmps48
  go_wp2_with fail
  refine (HC _ ((Bel.refl _).alloc _)).out.mono ?_
  rintro e w' ⟨rfl, hb'⟩
  go_wp2_with fail
  refine (HF _ (((Bel.refl _).alloc _).trans hb')).out.mono ?_
  rintro e w2 ⟨rfl, hb2⟩
  have Hob := Lib.hid (hb2.at (hb'.at (new_at w _)))
  have z0 := cellk Hob.out 0 _ rfl
  have y0 := freek Hob.out 0
  have z1 := cellk Hob.out 1 _ rfl
  have y1 := freek Hob.out 1
  have z2 := cellk Hob.out 2 _ rfl
  have y2 := freek Hob.out 2
  have z3 := cellk Hob.out 3 _ rfl
  have y3 := freek Hob.out 3
  have z4 := cellk Hob.out 4 _ rfl
  have y4 := freek Hob.out 4
  have z5 := cellk Hob.out 5 _ rfl
  have y5 := freek Hob.out 5
  have Hb := Lib.hid ((((Bel.refl _).alloc _).trans hb').trans hb2)
  clear hb' hb2
  go_wp2
  have hB := Hb.out.set6 (Nat.le_refl _) (.string A.name) (.string A.above) (.int .i64 A.syn) (.int .i64 A.rule) (.bool A.single) (.bool A.closed)
  have hR := at_set6 Hob.out (.string A.name) (.string A.above) (.int .i64 A.syn) (.int .i64 A.rule) (.bool A.single) (.bool A.closed)
  have q0 := cellk hR 0 _ rfl
  have q1 := cellk hR 1 _ rfl
  have q2 := cellk hR 2 _ rfl
  have q3 := cellk hR 3 _ rfl
  have q4 := cellk hR 4 _ rfl
  have q5 := cellk hR 5 _ rfl
  refine bodyPost_ret (by simp [results, Tryz.results48, go_sem, q0, q1, q2, q3, q4, q5]; try rfl) rfl ?_
  exact ⟨rfl, hB⟩

theorem findP_any (l : List Attr) (v : Value) (name : ByteArray) (w : World) (hs : Sl w v 6 l.length (attrCells l)) (hl : l.length < 1000000) (ha : ∀ a ∈ l, shortA a) :
    Calls Tryz.prog 48 #[v, .string name] w fun e w' => e = .returned (.tuple #[(match findC l name with | some a => a.val | none => Attr.none.val), .bool (findC l name).isSome]) ∧ Bel w w' := by
  obtain ⟨r, hr⟩ : ∃ r, r = findC l name := ⟨_, rfl⟩
  rw [← hr]
  unfold findC at hr
  have HC := fun w' (h : Bel w w') => Lib.hid (check_any l v w' (hs.bel h) hl ha)
  have HF := fun w' (h : Bel w w') => Lib.hid (find_any l v name w' (hs.bel h) hl)
  obtain ⟨q, cap, rfl⟩ : ∃ q cap, v = .slice q l.length cap := by obtain ⟨_, q, cap, h, _⟩ := hs; exact ⟨q, cap, h⟩
  clear hs ha
  unfold checkN at HC
  cases hc : checkA l with
  | false =>
    rw [hc] at hr HC
    simp only [Bool.false_eq_true, if_false] at hr HC
    subst hr
    go_enter Tryz.func48, Tryz.ntmps48
    go_wp2_with fail
    refine (HC _ ((Bel.refl _).alloc _)).out.mono ?_
    rintro e w' ⟨rfl, hb'⟩
    have Hob := Lib.hid (hb'.at (new_at w _))
    have z0 := cellk Hob.out 0 _ rfl
    have y0 := freek Hob.out 0
    have z1 := cellk Hob.out 1 _ rfl
    have y1 := freek Hob.out 1
    have z2 := cellk Hob.out 2 _ rfl
    have y2 := freek Hob.out 2
    have z3 := cellk Hob.out 3 _ rfl
    have y3 := freek Hob.out 3
    have z4 := cellk Hob.out 4 _ rfl
    have y4 := freek Hob.out 4
    have z5 := cellk Hob.out 5 _ rfl
    have y5 := freek Hob.out 5
    have Hb := Lib.hid hb'
    clear hb'
    go_wp2
    have hB := (((Bel.refl _).alloc _).trans Hb.out).set6 (Nat.le_refl _) (.string ⟨#[]⟩) (.string ⟨#[]⟩) (.int .i64 0) (.int .i64 0) (.bool false) (.bool false)
    have hR := at_set6 Hob.out (.string ⟨#[]⟩) (.string ⟨#[]⟩) (.int .i64 0) (.int .i64 0) (.bool false) (.bool false)
    have q0 := cellk hR 0 _ rfl
    have q1 := cellk hR 1 _ rfl
    have q2 := cellk hR 2 _ rfl
    have q3 := cellk hR 3 _ rfl
    have q4 := cellk hR 4 _ rfl
    have q5 := cellk hR 5 _ rfl
    refine bodyPost_ret (by simp [results, Tryz.results48, go_sem, q0, q1, q2, q3, q4, q5]; try rfl) rfl ?_
    exact ⟨rfl, hB⟩
  | true =>
    rw [hc] at hr HC
    simp only [if_true] at hr HC
    rw [← hr] at HF
    cases r with
    | none => exact findP_core q l.length cap name w Attr.none false HC HF
    | some a => exact findP_core q l.length cap name w a true HC HF
end Go.Proofs.YtljeeehimcdmbaaGreatDoor
