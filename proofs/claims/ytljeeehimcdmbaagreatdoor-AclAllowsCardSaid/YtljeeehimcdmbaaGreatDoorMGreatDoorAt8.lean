/- The walk of attrs.line. No condition. -/
import Derived.Test.YtljeeehimcdmbaaGreatDoorMGreatDoorAt7
import Derived.Maps.AppendAt
namespace Go.Proofs.YtljeeehimcdmbaaGreatDoor
open Go.RowKit Go.Wd Go.Dir Go.Shelf
attribute [local go_sem] Oper.semAt_some

/-- What the walk owes behind 'out = append(out, ..)', out in the box of block B, its own row at or beyond n₀. -/
theorem appendedB {W w1 : World} {n₀ B : Nat} {t e : TypeId} {size : Nat} {v v' : Value} {k m : Nat} {xs ys : List Value} {tmp : Obj}
    (hv : Boxed W B t v) (hte : t ≠ e) (hrow : W.ownsRow n₀ e size v k xs) (hn₀ : n₀ ≤ W.heap.size)
    (hown' : w1.ownsRow n₀ e size v' m ys) (hgrow : (W.alloc tmp).grownBy w1 v.ownBlock) :
    Boxed w1 B t v ∧ Boxed (w1.setCell ⟨B, 0, none⟩ v') B t v' ∧ (w1.setCell ⟨B, 0, none⟩ v').ownsRow n₀ e size v' m ys ∧ KeepsOthers W (w1.setCell ⟨B, 0, none⟩ v') ∧
      (∀ j, j < W.heap.size → j ≠ B → some j ≠ v.ownBlock → (w1.setCell ⟨B, 0, none⟩ v').heap[j]? = W.heap[j]?) ∧
      (∀ C, C ≤ n₀ → C ≤ B → Below C W (w1.setCell ⟨B, 0, none⟩ v')) := by
  have hv1 : Boxed w1 B t v := (hv.alloc tmp).kept hgrow (hv.not_row hte hrow)
  refine ⟨hv1, hv1.set v', hown'.kept (grownBy_setCell' w1 B v') (.inr (hv1.not_row hte hown').symm), ?_, ?_⟩
  · refine ((KeepsOthers.alloc W tmp).trans (KeepsOthers.of_grownBy hgrow fun j o ej hj => ?_)).trans (KeepsOthers.setCell _ _ _)
    rcases (hrow.alloc tmp).2 with ⟨rfl, _⟩ | ⟨g, cap, cur, rfl, _, hgb, _⟩
    · simp [Value.ownBlock] at ej
    · obtain rfl : g = j := by simpa [Value.ownBlock] using ej
      rw [hgb] at hj; cases hj; rfl
  · refine ⟨fun j hj hne hown => ?_, fun C hC hCB => ?_⟩
    · rw [Below.heap_setCell _ _ _ _ hne, hgrow.block j (by simp; omega) hown]
      exact Below.heap_alloc W tmp j hj
    · refine (((Below.refl C W).alloc (Nat.le_trans hC hn₀) tmp).grown hgrow (by simp; omega) fun j ej => ?_).setCell (p := ⟨B, 0, none⟩) hCB v'
      rcases hrow.2 with ⟨rfl, _⟩ | ⟨g, cap, cur, rfl, hb, _, _⟩
      · simp [Value.ownBlock] at ej
      · obtain rfl : g = j := by simpa [Value.ownBlock] using ej
        omega

def strCells (l : List ByteArray) : List Value := l.map .string
theorem strCells_len (l : List ByteArray) : (strCells l).length = l.length := by simp [strCells]

theorem strCells_app (l m : List ByteArray) : strCells (l ++ m) = strCells l ++ strCells m := by simp [strCells]
theorem ne_own {o : Option Nat} {j : Nat} (h : o = none ∨ o ≠ some j) : some j ≠ o := by
  rcases h with h | h
  · rw [h]; simp
  · exact fun e => h e.symm

theorem infoS : (Tryz.prog.info? 9).map (fun i => (i.zero, i.size, i.bytes)) = some (some (.string ⟨#[]⟩), 1, 16) := by kernel_rfl

theorem ownRow_free {W : World} {n₀ e size k : Nat} {v : Value} {xs : List Value} (h : W.ownsRow n₀ e size v k xs) {j : Nat} (hj : j < n₀ ∨ W.heap.size ≤ j) : v.ownBlock = none ∨ v.ownBlock ≠ some j := by
  rcases h.2 with ⟨rfl, _⟩ | ⟨g, cap, cur, rfl, hb, hg, _⟩
  · exact .inl rfl
  · right
    intro e
    have e : g = j := by simpa [Value.ownBlock] using e
    have := (Array.getElem?_eq_some_iff.1 hg).1
    omega
theorem ownRow_cells {W : World} {n₀ e size k : Nat} {v : Value} {xs : List Value} (h : W.ownsRow n₀ e size v k xs) {j : Nat} {o : Obj} (ho : W.heap[j]? = some o) (hc : o.isCells = false) : v.ownBlock = none ∨ v.ownBlock ≠ some j := by
  rcases h.2 with ⟨rfl, _⟩ | ⟨g, cap, cur, rfl, hb, hg, _⟩
  · exact .inl rfl
  · right
    intro e
    have e : g = j := by simpa [Value.ownBlock] using e
    subst e
    rw [ho] at hg; cases hg; cases hc

set_option maxRecDepth 100000 in
set_option maxHeartbeats 2000000 in
theorem line_any (l : List Attr) (v : Value) (name : ByteArray) (w : World) (hs : Sl w v 6 l.length (attrCells l)) (hl : l.length < 1000000) :
    Calls Tryz.prog 54 #[v, .string name] w fun e W' => ∃ u, e = .returned u ∧ Sl W' u 1 (up l (l.length + 1) name).length (strCells ((up l (l.length + 1) name).map Attr.name)) ∧ Bel w W' := by
  obtain ⟨q, cap, rfl⟩ : ∃ q cap, v = .slice q l.length cap := by obtain ⟨_, q, cap, h, _⟩ := hs; exact ⟨q, cap, h⟩
  obtain ⟨i0, hi, hz0, hz1, hz2⟩ := info_parts infoS
  have HU := fun nm w' => Lib.hid (up_any q l.length cap nm w')
  refine (callsIn_wide (n := 6)).1 ?_
  refine callsIn_of_wp_marks Tryz.func54 rfl trivial ?_ rfl
  simp only [Tryz.ntmps54, List.size_toArray, List.length_cons, List.length_nil, Nat.reduceAdd, Nat.reduceSub, Array.replicate_succ, Array.replicate_zero, List.push_toArray, List.append_toArray, List.nil_append, List.cons_append]
  gi_wp2_with (refine ⟨trivial, ?_⟩; refine (callsIn_wide.2 (HU _ _).out).mono ?_; rintro e w2 ⟨rfl, rfl⟩)
  obtain ⟨W0, hW0⟩ : ∃ W0, W0 = ((w.alloc (.cells #[.slice none 0 0] 57)).alloc (.cells #[.slice q l.length cap] 22)).alloc (.cells #[.string name] 9) := ⟨_, rfl⟩
  obtain ⟨B, hBq⟩ : ∃ B, B = w.heap.size := ⟨_, rfl⟩
  have hsz : W0.heap.size = B + 3 := by rw [hW0, hBq]; simp
  have b0 : W0.heap[B]? = some (.cells #[.slice none 0 0] 57) := by rw [hW0, hBq]; exact old_at (old_at (new_at w _) _) _
  have b1 : W0.heap[B + 1]? = some (.cells #[.slice q l.length cap] 22) := by
    have := new_at (w.alloc (.cells #[.slice none 0 0] 57)) (.cells #[.slice q l.length cap] 22)
    rw [World.size_alloc] at this
    rw [hW0, hBq]; exact old_at this _
  have b2 : W0.heap[B + 2]? = some (.cells #[.string name] 9) := by
    have := new_at ((w.alloc (.cells #[.slice none 0 0] 57)).alloc (.cells #[.slice q l.length cap] 22)) (.cells #[.string name] 9)
    rw [World.size_alloc, World.size_alloc] at this
    rw [hW0, hBq]; exact this
  have hbel : Bel w W0 := by rw [hW0]; exact (((Bel.refl w).alloc _).alloc _).alloc _
  have hs0 : Sl W0 (.slice q l.length cap) 6 l.length (attrCells l) := hs.bel hbel
  rw [← hW0, ← hBq]
  have HBq := Lib.hid hBq
  have Hs := Lib.hid hs
  clear hW0 hBq hs
  refine wpIn_rangeFunc_cell rfl (by omega) (gf := 76) (lb := #[.pointer (some ⟨B + 1, 0, none⟩), .pointer (some ⟨B + 1 + 1, 0, none⟩)]) rfl trivial (enters_of Tryz.func76 (by kernel_rfl) rfl)
    (kb := B + 2) (by omega) (Kp := fun j => j ≠ B ∧ j < B + 3) (fun j hj => by rw [hsz]; omega)
    (up_seq 5 (B + 1) (B + 2) (by omega) _ ⟨by omega, by omega⟩ ⟨by omega, by omega⟩ (by omega) l _ (fun j hj hp => by
      have := Hs.out.block j hj hp
      rw [← HBq.out] at this
      exact ⟨⟨by omega, by omega⟩, by omega⟩) hl name W0 b1 b2 hs0) (fun _ => rfl)
    (fun pre W => (∃ v, Boxed W B 57 v ∧ W.ownsRow (B + 3) 9 1 v pre.length (strCells (pre.map Attr.name)) ∧ True) ∧ Bel w W ∧ B + 3 ≤ W.heap.size)
    (fun _ _ _ => False)
    ?oI ?oX ?kI ?kX ⟨⟨_, b0, World.ownsRow_nil _ _ _ _, trivial⟩, hbel, by omega⟩
    (fun N _ W => N ≠ B ∧ ∃ v, (Boxed W B 57 v ∧ (∃ k xs, W.ownsRow (B + 3) 9 1 v k xs)) ∧ (v.ownBlock = none ∨ v.ownBlock ≠ some N)) ?free ?fr
    (fun x a' W => ∃ Bx, B < Bx ∧ W.heap[Bx]? = some (.cells #[.string x.name, .string x.above, .int .i64 x.syn, .int .i64 x.rule, .bool x.single, .bool x.closed] 64) ∧
      a' = { tmps := #[.slice q l.length cap, .string name, undef, undef, .slice none 0 0, .pointer (some ⟨B, 0, none⟩), .pointer (some ⟨Bx, 0, none⟩), .slice q l.length cap, .string name, .func (.func 76) #[] #[.pointer (some ⟨B + 1, 0, none⟩), .pointer (some ⟨B + 1 + 1, 0, none⟩)], x.val, undef, undef, undef, undef, undef, undef], defers := [] }) ?ax ?assign ?body ?done ?stop
  case oI =>
    refine OwnFrom.and (Own.from (holdsRow_own (B + 3) B 57 9 1 (fun pre : List Attr => pre.length) (fun pre => strCells (pre.map Attr.name)) (fun _ _ => True)) _) ?_
    rintro pre X Y row ⟨h1, h2⟩ hg hr
    exact ⟨h1.grown hg (fun j e => by have := (hr j e).1; rw [hsz] at this; rw [← HBq.out]; omega), Nat.le_trans h2 hg.size⟩
  case oX => rintro c pre X Y row h; exact h.elim
  case kI =>
    rintro pre X Y ⟨⟨v, hv, hrow, -⟩, h1, h2⟩ hg
    exact ⟨⟨v, hv.kept hg (by simp), hrow.kept hg (ownRow_free hrow (.inl (by omega))), trivial⟩, h1.grown hg (fun j e => by cases e; rw [← HBq.out]; omega), Nat.le_trans h2 hg.size⟩
  case kX => intro c pre X Y h; exact h.elim
  case free =>
    rintro pre W o ⟨⟨v, hv, hrow, -⟩, h1, h2⟩
    exact ⟨by omega, v, ⟨hv.alloc _, _, _, hrow.alloc _⟩, ownRow_free hrow (.inr (Nat.le_refl _))⟩
  case fr =>
    rintro N pre X Y row ⟨h1, v, ⟨hv, k, xs, hrow⟩, h2⟩ hg hr
    have hne : some B ≠ row := fun e => by have := (hr B e.symm).1; omega
    refine ⟨h1, v, ⟨hv.kept hg hne, k, xs, hrow.kept hg ?_⟩, h2⟩
    cases row with
    | none => rcases hrow.2 with ⟨rfl, _⟩ | ⟨g, cap, cur, rfl, _⟩; exact .inl rfl; exact .inr (by simp [Value.ownBlock])
    | some j =>
      obtain ⟨_, o, ho, hc⟩ := hr j rfl
      exact ownRow_cells hrow ho hc
  case ax =>
    rintro x a' s X Y row ⟨Bx, h1, h2, h3⟩ hg hr
    refine ⟨Bx, h1, (hg.block Bx (Array.getElem?_eq_some_iff.1 h2).1 (fun e => ?_)).trans h2, h3⟩
    obtain ⟨_, o, ho, hc⟩ := hr Bx e.symm
    rw [h2] at ho; cases ho; cases hc
  case assign =>
    rintro lo pre x W K ⟨⟨v, hv, hrow, -⟩, h1, h2⟩ hK
    have Hv := Lib.hid hv
    have Hrow := Lib.hid hrow
    have H1 := Lib.hid h1
    clear hv hrow h1
    unfold Attr.val at *
    gi_wp2
    refine hK _ _ ⟨(KeepsOthers.alloc W _).from _, World.grownBy_alloc W _ none⟩ ⟨⟨v, Hv.out.alloc _, Hrow.out.alloc _, trivial⟩, H1.out.alloc _, by rw [World.size_alloc]; omega⟩ ⟨W.heap.size, by omega, new_at W _, rfl⟩
  case body =>
    rintro lo pre x a' N W hplen ⟨⟨v, hv, hrow, -⟩, h1, h2⟩ hN hNlt ⟨Bx, hx1, hx2, rfl⟩
    have hc := hv.cell
    have c0 : W.cell? ⟨Bx, 0, none⟩ = some (.string x.name) := cellk hx2 0 _ rfl
    have hb1 : pre.length + 1 ≤ maxLen := by unfold maxLen; omega
    have hb2 : (pre.length + 1) * 16 ≤ 140737488355328 := by omega
    have H1 := Lib.hid h1
    have HN := Lib.hid hN
    clear h1 hN hx2
    gi_wp2_with (gi_at_builtin; refine wpListIn_append_own _ rfl _ _ 57 rfl (B + 3) 9 i0 (.string ⟨#[]⟩) 1 16 Tryz.underlying57 hi hz0 hz1 hz2 rfl (by decide) _ _ _ rfl (hrow.alloc _) ⟨W.heap.size, 0, none⟩ 1 1 [.string x.name] rfl rfl (cell_one_new _ _ _) (by simp [Value.oneCell']) hb1 hb2 (by simp; omega) ?_; intro v' w1 hown' hgrow _; obtain ⟨g', cap', rfl⟩ := ownsRow_succ hown'; obtain ⟨hv1, hv2, hr2, hk2, hb2, hb3⟩ := appendedB hv (by decide) hrow h2 hown' hgrow; have hc1 := hv1.cell; have hf1 := hv1.frozen)
    refine ⟨hk2.from _, fun j hj hjlt => hb2 j (by omega) hj.1 (ne_own (ownRow_free hrow (.inl (by omega)))), ?_, ⟨⟨_, hv2, ?_, trivial⟩, ?_, ?_⟩⟩
    · obtain ⟨hNB, v2, ⟨hv3, -⟩, hfree⟩ := HN.out
      have e : v2 = v := by
        have := (show W.heap[B]? = _ from hv3).symm.trans (show W.heap[B]? = _ from hv)
        simpa using this
      subst e
      exact hb2 N hNlt hNB (ne_own hfree)
    · rw [List.length_append, List.map_append, strCells_app]
      exact hr2
    · exact Below.trans H1.out (by have := hb3 w.heap.size (by rw [← HBq.out]; omega) (by rw [← HBq.out]; omega); exact this)
    · have := hk2.size
      omega
  case done =>
    rintro D ys W hD rfl ⟨⟨v, hv, hrow, -⟩, h1, h2⟩ hK
    have hc := hv.cell
    gi_wp2
    refine ⟨by simp, .inl ⟨_, _, rfl, run_takeDeferred hK, ?_⟩⟩
    have hrow2 := ownsRow_putObj hrow (.deferred none) hK rfl
    refine ⟨_, results_tmp rfl _ _ _, v, rfl, Sl.own hrow2, h1.grown (grownBy_putObj' _ _ _) (fun j e => by cases e; rw [hsz] at hD; rw [← HBq.out]; omega)⟩
  case stop => rintro D c pre W hD hS h hK; exact h.elim
end Go.Proofs.YtljeeehimcdmbaaGreatDoor
