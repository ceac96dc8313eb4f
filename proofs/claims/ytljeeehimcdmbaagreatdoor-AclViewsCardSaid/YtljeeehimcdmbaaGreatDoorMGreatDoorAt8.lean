/- AclViews: parts of its proof. No condition. -/
import Derived.Test.YtljeeehimcdmbaaGreatDoorMGreatDoorRg
import Derived.Maps.AppendAt
section
/- The walk of attrs.line. No condition. -/
namespace Go.Proofs.YtljeeehimcdmbaaGreatDoor
open Go.RowKit Go.Wd Go.Dir Go.Shelf
attribute [local go_sem] Oper.semAt_some

/-- What the walk owes behind 'out = append(out, ..)', out in the box of block B, its own row at or beyond n₀. -/
theorem appendedB {W w1 : World} {n₀ B : Nat} {t e : TypeId} {size : Nat} {v v' : Value} {k m : Nat} {xs ys : List Value} {tmp : Obj}
    (hv : Boxed W B t v) (hte : t ≠ e) (hrow : W.ownsRow n₀ e size v k xs) (hn₀ : n₀ ≤ W.heap.size)
    (hown' : w1.ownsRow n₀ e size v' m ys) (hgrow : (W.alloc tmp).grownBy w1 v.ownBlock) :
    Boxed w1 B t v ∧ Boxed (w1.setCell ⟨B, 0, none⟩ v') B t v' ∧ (w1.setCell ⟨B, 0, none⟩ v').ownsRow n₀ e size v' m ys ∧ KeepsOthers W (w1.setCell ⟨B, 0, none⟩ v') ∧
      (∀ j, j < W.heap.size → j ≠ B → some j ≠ v.ownBlock → (w1.setCell ⟨B, 0, none⟩ v').heap[j]? = W.heap[j]?) ∧
      (∀ C, C ≤ n₀ → C ≤ B → Below C W (w1.setCell ⟨B, 0, none⟩ v')) := by
  have hv1 : Boxed w1 B t v := (hv.alloc tmp).kept hgrow (hv.not_row hte hrow)
  refine ⟨hv1, hv1.set v', hown'.kept (grownBy_setCell' w1 B v') (.inr (hv1.not_row hte hown').symm), ?_, ?_⟩
  · refine ((KeepsOthers.alloc W tmp).trans (KeepsOthers.of_grownBy hgrow fun j o ej hj => ?_)).trans (KeepsOthers.setCell _ _ _)
    rcases (hrow.alloc tmp).2 with ⟨rfl, _⟩ | ⟨g, cap, cur, rfl, _, hgb, _⟩
    · simp [Value.ownBlock] at ej
    · obtain rfl : g = j := by simpa [Value.ownBlock] using ej
      rw [hgb] at hj; cases hj; rfl
  · refine ⟨fun j hj hne hown => ?_, fun C hC hCB => ?_⟩
    · rw [Below.heap_setCell _ _ _ _ hne, hgrow.block j (by simp; omega) hown]
      exact Below.heap_alloc W tmp j hj
    · refine (((Below.refl C W).alloc (Nat.le_trans hC hn₀) tmp).grown hgrow (by simp; omega) fun j ej => ?_).setCell (p := ⟨B, 0, none⟩) hCB v'
      rcases hrow.2 with ⟨rfl, _⟩ | ⟨g, cap, cur, rfl, hb, _, _⟩
      · simp [Value.ownBlock] at ej
      · obtain rfl : g = j := by simpa [Value.ownBlock] using ej
        omega

def strCells (l : List ByteArray) : List Value := l.map .string
theorem strCells_len (l : List ByteArray) : (strCells l).length = l.length := by simp [strCells]

theorem strCells_app (l m : List ByteArray) : strCells (l ++ m) = strCells l ++ strCells m := by simp [strCells]
theorem ne_own {o : Option Nat} {j : Nat} (h : o = none ∨ o ≠ some j) : some j ≠ o := by
  rcases h with h | h
  · rw [h]; simp
  · exact fun e => h e.symm

theorem infoS : (Tryz.prog.info? 9).map (fun i => (i.zero, i.size, i.bytes)) = some (some (.string ⟨#[]⟩), 1, 16) := by kernel_rfl

theorem ownRow_free {W : World} {n₀ e size k : Nat} {v : Value} {xs : List Value} (h : W.ownsRow n₀ e size v k xs) {j : Nat} (hj : j < n₀ ∨ W.heap.size ≤ j) : v.ownBlock = none ∨ v.ownBlock ≠ some j := by
  rcases h.2 with ⟨rfl, _⟩ | ⟨g, cap, cur, rfl, hb, hg, _⟩
  · exact .inl rfl
  · right
    intro e
    have e : g = j := by simpa [Value.ownBlock] using e
    have := (Array.getElem?_eq_some_iff.1 hg).1
    omega
theorem ownRow_cells {W : World} {n₀ e size k : Nat} {v : Value} {xs : List Value} (h : W.ownsRow n₀ e size v k xs) {j : Nat} {o : Obj} (ho : W.heap[j]? = some o) (hc : o.isCells = false) : v.ownBlock = none ∨ v.ownBlock ≠ some j := by
  rcases h.2 with ⟨rfl, _⟩ | ⟨g, cap, cur, rfl, hb, hg, _⟩
  · exact .inl rfl
  · right
    intro e
    have e : g = j := by simpa [Value.ownBlock] using e
    subst e
    rw [ho] at hg; cases hg; cases hc

set_option maxRecDepth 100000 in
set_option maxHeartbeats 2000000 in
theorem line_any (l : List Attr) (v : Value) (name : ByteArray) (w : World) (hs : Sl w v 6 l.length (attrCells l)) (hl : l.length < 1000000) :
    Calls Tryz.prog 54 #[v, .string name] w fun e W' => ∃ u, e = .returned u ∧ Sl W' u 1 (up l (l.length + 1) name).length (strCells ((up l (l.length + 1) name).map Attr.name)) ∧ Bel w W' := by
  obtain ⟨q, cap, rfl⟩ : ∃ q cap, v = .slice q l.length cap := by obtain ⟨_, q, cap, h, _⟩ := hs; exact ⟨q, cap, h⟩
  obtain ⟨i0, hi, hz0, hz1, hz2⟩ := info_parts infoS
  have HU := fun nm w' => Lib.hid (up_any q l.length cap nm w')
  refine (callsIn_wide (n := 6)).1 ?_
  refine callsIn_of_wp_marks Tryz.func54 rfl trivial ?_ rfl
  simp only [Tryz.ntmps54, List.size_toArray, List.length_cons, List.length_nil, Nat.reduceAdd, Nat.reduceSub, Array.replicate_succ, Array.replicate_zero, List.push_toArray, List.append_toArray, List.nil_append, List.cons_append]
  gi_wp2_with (refine ⟨trivial, ?_⟩; refine (callsIn_wide.2 (HU _ _).out).mono ?_; rintro e w2 ⟨rfl, rfl⟩)
  obtain ⟨W0, hW0⟩ : ∃ W0, W0 = ((w.alloc (.cells #[.slice none 0 0] 57)).alloc (.cells #[.slice q l.length cap] 22)).alloc (.cells #[.string name] 9) := ⟨_, rfl⟩
  obtain ⟨B, hBq⟩ : ∃ B, B = w.heap.size := ⟨_, rfl⟩
  have hsz : W0.heap.size = B + 3 := by rw [hW0, hBq]; simp
  have b0 : W0.heap[B]? = some (.cells #[.slice none 0 0] 57) := by rw [hW0, hBq]; exact old_at (old_at (new_at w _) _) _
  have b1 : W0.heap[B + 1]? = some (.cells #[.slice q l.length cap] 22) := by
    have := new_at (w.alloc (.cells #[.slice none 0 0] 57)) (.cells #[.slice q l.length cap] 22)
    rw [World.size_alloc] at this
    rw [hW0, hBq]; exact old_at this _
  have b2 : W0.heap[B + 2]? = some (.cells #[.string name] 9) := by
    have := new_at ((w.alloc (.cells #[.slice none 0 0] 57)).alloc (.cells #[.slice q l.length cap] 22)) (.cells #[.string name] 9)
    rw [World.size_alloc, World.size_alloc] at this
    rw [hW0, hBq]; exact this
  have hbel : Bel w W0 := by rw [hW0]; exact (((Bel.refl w).alloc _).alloc _).alloc _
  have hs0 : Sl W0 (.slice q l.length cap) 6 l.length (attrCells l) := hs.bel hbel
  rw [← hW0, ← hBq]
  have HBq := Lib.hid hBq
  have Hs := Lib.hid hs
  clear hW0 hBq hs
  refine wpIn_rangeFunc_cell rfl (by omega) (gf := 76) (lb := #[.pointer (some ⟨B + 1, 0, none⟩), .pointer (some ⟨B + 1 + 1, 0, none⟩)]) rfl trivial (enters_of Tryz.func76 (by kernel_rfl) rfl)
    (kb := B + 2) (by omega) (Kp := fun j => j ≠ B ∧ j < B + 3) (fun j hj => by rw [hsz]; omega)
    (up_seq 5 (B + 1) (B + 2) (by omega) _ ⟨by omega, by omega⟩ ⟨by omega, by omega⟩ (by omega) l _ (fun j hj hp => by
      have := Hs.out.block j hj hp
      rw [← HBq.out] at this
      exact ⟨⟨by omega, by omega⟩, by omega⟩) hl name W0 b1 b2 hs0) (fun _ => rfl)
    (fun pre W => (∃ v, Boxed W B 57 v ∧ W.ownsRow (B + 3) 9 1 v pre.length (strCells (pre.map Attr.name)) ∧ True) ∧ Bel w W ∧ B + 3 ≤ W.heap.size)
    (fun _ _ _ => False)
    ?oI ?oX ?kI ?kX ⟨⟨_, b0, World.ownsRow_nil _ _ _ _, trivial⟩, hbel, by omega⟩
    (fun N _ W => N ≠ B ∧ ∃ v, (Boxed W B 57 v ∧ (∃ k xs, W.ownsRow (B + 3) 9 1 v k xs)) ∧ (v.ownBlock = none ∨ v.ownBlock ≠ some N)) ?free ?fr
    (fun x a' W => ∃ Bx, B < Bx ∧ W.heap[Bx]? = some (.cells #[.string x.name, .string x.above, .int .i64 x.syn, .int .i64 x.rule, .bool x.single, .bool x.closed] 64) ∧
      a' = { tmps := #[.slice q l.length cap, .string name, undef, undef, .slice none 0 0, .pointer (some ⟨B, 0, none⟩), .pointer (some ⟨Bx, 0, none⟩), .slice q l.length cap, .string name, .func (.func 76) #[] #[.pointer (some ⟨B + 1, 0, none⟩), .pointer (some ⟨B + 1 + 1, 0, none⟩)], x.val, undef, undef, undef, undef, undef, undef], defers := [] }) ?ax ?assign ?body ?done ?stop
  case oI =>
    refine OwnFrom.and (Own.from (holdsRow_own (B + 3) B 57 9 1 (fun pre : List Attr => pre.length) (fun pre => strCells (pre.map Attr.name)) (fun _ _ => True)) _) ?_
    rintro pre X Y row ⟨h1, h2⟩ hg hr
    exact ⟨h1.grown hg (fun j e => by have := (hr j e).1; rw [hsz] at this; rw [← HBq.out]; omega), Nat.le_trans h2 hg.size⟩
  case oX => rintro c pre X Y row h; exact h.elim
  case kI =>
    rintro pre X Y ⟨⟨v, hv, hrow, -⟩, h1, h2⟩ hg
    exact ⟨⟨v, hv.kept hg (by simp), hrow.kept hg (ownRow_free hrow (.inl (by omega))), trivial⟩, h1.grown hg (fun j e => by cases e; rw [← HBq.out]; omega), Nat.le_trans h2 hg.size⟩
  case kX => intro c pre X Y h; exact h.elim
  case free =>
    rintro pre W o ⟨⟨v, hv, hrow, -⟩, h1, h2⟩
    exact ⟨by omega, v, ⟨hv.alloc _, _, _, hrow.alloc _⟩, ownRow_free hrow (.inr (Nat.le_refl _))⟩
  case fr =>
    rintro N pre X Y row ⟨h1, v, ⟨hv, k, xs, hrow⟩, h2⟩ hg hr
    have hne : some B ≠ row := fun e => by have := (hr B e.symm).1; omega
    refine ⟨h1, v, ⟨hv.kept hg hne, k, xs, hrow.kept hg ?_⟩, h2⟩
    cases row with
    | none => rcases hrow.2 with ⟨rfl, _⟩ | ⟨g, cap, cur, rfl, _⟩; exact .inl rfl; exact .inr (by simp [Value.ownBlock])
    | some j =>
      obtain ⟨_, o, ho, hc⟩ := hr j rfl
      exact ownRow_cells hrow ho hc
  case ax =>
    rintro x a' s X Y row ⟨Bx, h1, h2, h3⟩ hg hr
    refine ⟨Bx, h1, (hg.block Bx (Array.getElem?_eq_some_iff.1 h2).1 (fun e => ?_)).trans h2, h3⟩
    obtain ⟨_, o, ho, hc⟩ := hr Bx e.symm
    rw [h2] at ho; cases ho; cases hc
  case assign =>
    rintro lo pre x W K ⟨⟨v, hv, hrow, -⟩, h1, h2⟩ hK
    have Hv := Lib.hid hv
    have Hrow := Lib.hid hrow
    have H1 := Lib.hid h1
    clear hv hrow h1
    unfold Attr.val at *
    gi_wp2
    refine hK _ _ ⟨(KeepsOthers.alloc W _).from _, World.grownBy_alloc W _ none⟩ ⟨⟨v, Hv.out.alloc _, Hrow.out.alloc _, trivial⟩, H1.out.alloc _, by rw [World.size_alloc]; omega⟩ ⟨W.heap.size, by omega, new_at W _, rfl⟩
  case body =>
    rintro lo pre x a' N W hplen ⟨⟨v, hv, hrow, -⟩, h1, h2⟩ hN hNlt ⟨Bx, hx1, hx2, rfl⟩
    have hc := hv.cell
    have c0 : W.cell? ⟨Bx, 0, none⟩ = some (.string x.name) := cellk hx2 0 _ rfl
    have hb1 : pre.length + 1 ≤ maxLen := by unfold maxLen; omega
    have hb2 : (pre.length + 1) * 16 ≤ 140737488355328 := by omega
    have H1 := Lib.hid h1
    have HN := Lib.hid hN
    clear h1 hN hx2
    gi_wp2_with (gi_at_builtin; refine wpListIn_append_own _ rfl _ _ 57 rfl (B + 3) 9 i0 (.string ⟨#[]⟩) 1 16 Tryz.underlying57 hi hz0 hz1 hz2 rfl (by decide) _ _ _ rfl (hrow.alloc _) ⟨W.heap.size, 0, none⟩ 1 1 [.string x.name] rfl rfl (cell_one_new _ _ _) (by simp [Value.oneCell']) hb1 hb2 (by simp; omega) ?_; intro v' w1 hown' hgrow _; obtain ⟨g', cap', rfl⟩ := ownsRow_succ hown'; obtain ⟨hv1, hv2, hr2, hk2, hb2, hb3⟩ := appendedB hv (by decide) hrow h2 hown' hgrow; have hc1 := hv1.cell; have hf1 := hv1.frozen)
    refine ⟨hk2.from _, fun j hj hjlt => hb2 j (by omega) hj.1 (ne_own (ownRow_free hrow (.inl (by omega)))), ?_, ⟨⟨_, hv2, ?_, trivial⟩, ?_, ?_⟩⟩
    · obtain ⟨hNB, v2, ⟨hv3, -⟩, hfree⟩ := HN.out
      have e : v2 = v := by
        have := (show W.heap[B]? = _ from hv3).symm.trans (show W.heap[B]? = _ from hv)
        simpa using this
      subst e
      exact hb2 N hNlt hNB (ne_own hfree)
    · rw [List.length_append, List.map_append, strCells_app]
      exact hr2
    · exact Below.trans H1.out (by have := hb3 w.heap.size (by rw [← HBq.out]; omega) (by rw [← HBq.out]; omega); exact this)
    · have := hk2.size
      omega
  case done =>
    rintro D ys W hD rfl ⟨⟨v, hv, hrow, -⟩, h1, h2⟩ hK
    have hc := hv.cell
    gi_wp2
    refine ⟨by simp, .inl ⟨_, _, rfl, run_takeDeferred hK, ?_⟩⟩
    have hrow2 := ownsRow_putObj hrow (.deferred none) hK rfl
    refine ⟨_, results_tmp rfl _ _ _, v, rfl, Sl.own hrow2, h1.grown (grownBy_putObj' _ _ _) (fun j e => by cases e; rw [hsz] at hD; rw [← HBq.out]; omega)⟩
  case stop => rintro D c pre W hD hS h hK; exact h.elim
end Go.Proofs.YtljeeehimcdmbaaGreatDoor
end

section
/- The walks of slices.Index, slices.Contains, attrs.Line, attrs.Is, acl.one. No condition. -/
namespace Go.Proofs.YtljeeehimcdmbaaGreatDoor
open Go.RowKit Go.Wd Go.Dir Go.Shelf

/-- A text among texts: what lies there. -/
theorem str_at {w : World} {v : Value} {l : List ByteArray} (h : Sl w v 1 l.length (strCells l)) (i : Nat) (hi : i < l.length) :
    ∃ b off cap, v = .slice (some ⟨b, off, none⟩) l.length cap ∧ w.cell? ⟨b, off + i, none⟩ = some (.string (l.getD i ⟨#[]⟩)) := by
  obtain ⟨hl, a, cap, rfl, h1, h2, hc⟩ := h
  obtain ⟨b, off, rfl, hb⟩ := hc i (by omega)
  refine ⟨b, off, cap, rfl, ?_⟩
  rw [hb]
  simp [strCells, List.getD_eq_getElem?_getD, List.getElem?_eq_getElem hi]

theorem mem_take (l : List ByteArray) (s : ByteArray) (k : Nat) (hk : k < l.length) : s ∈ l.take (k + 1) ↔ s ∈ l.take k ∨ s = l.getD k ⟨#[]⟩ := by
  rw [List.take_succ_eq_append_getElem hk, List.mem_append, List.mem_singleton, List.getD_eq_getElem?_getD, List.getElem?_eq_getElem hk]
  rfl

set_option maxHeartbeats 800000 in
theorem index_any (l : List ByteArray) (v : Value) (s : ByteArray) (w : World) (hs : Sl w v 1 l.length (strCells l)) (hl : l.length < 1000000) :
    Calls Tryz.prog 53 #[v, .string s] w fun e w' => ∃ i : Int, e = .returned (.int .i64 i) ∧ (0 ≤ i ↔ s ∈ l) ∧ Bel w w' := by
  obtain ⟨q, cap, rfl⟩ : ∃ q cap, v = .slice q l.length cap := by obtain ⟨_, q, cap, h, _⟩ := hs; exact ⟨q, cap, h⟩
  go_enter Tryz.func53, Tryz.ntmps53
  go_wp2
  go_loopw [8] (fun i wr => ∃ k : Nat, k ≤ l.length ∧ i = .int .i64 k ∧ ¬ s ∈ l.take k ∧ Bel w wr) (fun i _ => l.length - (intOf i).toNat)
  case atStart => exact ⟨0, Nat.zero_le _, rfl, by simp, Bel.refl _⟩
  case round =>
    obtain ⟨k, hk, rfl, hall, hb⟩ := hrel
    by_cases hlt : k < l.length
    · obtain ⟨b, off, cap', e, hcell⟩ := str_at (hs.bel hb) k hlt
      cases e
      have HS := Lib.hid (mem_take l s k hlt)
      have Hall := Lib.hid hall
      have Hin : Hid (l.getD k ⟨#[]⟩ ∈ l) := by
        rw [List.getD_eq_getElem?_getD, List.getElem?_eq_getElem hlt]; exact List.getElem_mem _
      have Hb := Lib.hid hb
      clear hall hs hb
      generalize l.getD k ⟨#[]⟩ = x at *
      by_cases hx : x = s
      · subst hx
        have e0 : (x.toList == x.toList) = true := by simp
        go_wp2
        go_ret
        exact ⟨k, rfl, ⟨fun _ => Hin.out, fun _ => by omega⟩, Hb.out⟩
      · have e0 : (s.toList == x.toList) = false := by
          cases h : (s.toList == x.toList) with
          | false => rfl
          | true => exact absurd (toList_inj (beq_iff_eq.1 h)).symm hx
        have e1 : ¬ s.toList = x.toList := fun h => hx (toList_inj h).symm
        have Hx := Lib.hid hx
        clear hx
        go_wp2
        go_roundw
        case rel => exact ⟨k + 1, by omega, by go_num, fun h => ((HS.out).1 h).elim Hall.out (fun e => Hx.out e.symm), Hb.out⟩
        case measure => simp [intOf]; omega
    · have e : k = l.length := by omega
      subst e
      rw [List.take_length] at hall
      have Hall := Lib.hid hall
      have Hb := Lib.hid hb
      clear hs hall hb
      go_wp2
      go_ret
      exact ⟨-1, rfl, ⟨fun h => by omega, fun h => absurd h Hall.out⟩, Hb.out⟩

theorem contains_any (l : List ByteArray) (v : Value) (s : ByteArray) (w : World) (hs : Sl w v 1 l.length (strCells l)) (hl : l.length < 1000000) :
    Calls Tryz.prog 37 #[v, .string s] w fun e w' => e = .returned (.bool (l.any fun x => decide (x = s))) ∧ Bel w w' := by
  have H := fun w' (h : Bel w w') => Lib.hid (index_any l v s w' (hs.bel h) hl)
  obtain ⟨q, cap, rfl⟩ : ∃ q cap, v = .slice q l.length cap := by obtain ⟨_, q, cap, h, _⟩ := hs; exact ⟨q, cap, h⟩
  clear hs
  have hrr : Hid (s ∈ l ↔ (l.any fun x => decide (x = s)) = true) := by show _ ↔ _; simp
  generalize (l.any fun x => decide (x = s)) = r at *
  go_enter Tryz.func37, Tryz.ntmps37
  go_wp2_with fail
  refine (H _ (Bel.refl _)).out.mono ?_
  rintro e w' ⟨i, rfl, hi, hb⟩
  have Hi := Lib.hid hi
  clear hi
  by_cases h0 : 0 ≤ i
  · have : r = true := hrr.out.1 (Hi.out.1 h0)
    subst this
    go_wp2
    go_ret
    exact ⟨rfl, hb⟩
  · have : r = false := by
      cases hr : r with
      | false => rfl
      | true => exact absurd (Hi.out.2 (hrr.out.2 hr)) h0
    subst this
    have d0 : decide (0 ≤ i) = false := decide_eq_false h0
    go_wp2
    go_ret
    exact ⟨rfl, hb⟩

theorem Line_any (l : List Attr) (v : Value) (name : ByteArray) (w : World) (hs : Sl w v 6 l.length (attrCells l)) (hl : l.length < 1000000) (ha : ∀ a ∈ l, shortA a) :
    Calls Tryz.prog 38 #[v, .string name] w fun e W' => ∃ u, e = .returned u ∧ Sl W' u 1 (line l name).length (strCells (line l name)) ∧ Bel w W' := by
  have HC := fun w' (h : Bel w w') => Lib.hid (check_any l v w' (hs.bel h) hl ha)
  have HL := fun w' (h : Bel w w') => Lib.hid (line_any l v name w' (hs.bel h) hl)
  obtain ⟨q, cap, rfl⟩ : ∃ q cap, v = .slice q l.length cap := by obtain ⟨_, q, cap, h, _⟩ := hs; exact ⟨q, cap, h⟩
  clear hs ha
  have hr : line l name = if checkA l then (up l (l.length + 1) name).map Attr.name else [] := rfl
  have Hr := Lib.hid hr
  clear hr
  unfold checkN at HC
  generalize line l name = r at *
  cases hc : checkA l with
  | false =>
    rw [hc] at HC Hr
    simp only [Bool.false_eq_true, if_false] at HC Hr
    obtain rfl : r = [] := Hr.out
    go_enter Tryz.func38, Tryz.ntmps38
    go_wp2_with fail
    refine (HC _ (Bel.refl _)).out.mono ?_
    rintro e w' ⟨rfl, hb⟩
    go_wp2
    go_ret
    exact ⟨_, rfl, Sl.nil _ _, hb⟩
  | true =>
    rw [hc] at HC Hr
    simp only [if_true] at HC Hr
    go_enter Tryz.func38, Tryz.ntmps38
    go_wp2_with fail
    refine (HC _ (Bel.refl _)).out.mono ?_
    rintro e w' ⟨rfl, hb⟩
    go_wp2_with fail
    refine (HL _ hb).out.mono ?_
    rintro e w2 ⟨u, rfl, hu, hb2⟩
    obtain ⟨q', cap', rfl⟩ : ∃ q' cap', u = .slice q' (up l (l.length + 1) name).length cap' := by obtain ⟨_, q, cap, h, _⟩ := hu; exact ⟨q, cap, h⟩
    have Hu := Lib.hid hu
    clear hu
    go_wp2
    go_ret
    refine ⟨_, rfl, ?_, hb.trans hb2⟩
    have := Hu.out
    rw [Hr.out, List.length_map]
    exact this

theorem up_len' (l : List Attr) (k : Nat) (nm : ByteArray) : (up l k nm).length ≤ k := up_len l k nm
theorem line_len (l : List Attr) (name : ByteArray) : (line l name).length ≤ l.length + 1 := by
  unfold line
  split
  · rw [List.length_map]; exact up_len _ _ _
  · simp

theorem is_any (l : List Attr) (v : Value) (name above : ByteArray) (w : World) (hs : Sl w v 6 l.length (attrCells l)) (hl : l.length < 100000) (ha : ∀ a ∈ l, shortA a) :
    Calls Tryz.prog 24 #[v, .string name, .string above] w fun e w' => e = .returned (.bool (isA l name above)) ∧ Bel w w' := by
  have HL := fun w' (h : Bel w w') => Lib.hid (Line_any l v name w' (hs.bel h) (by omega) ha)
  have hlen := line_len l name
  have HI := fun u w' h => Lib.hid (contains_any (line l name) u above w' h (by omega))
  obtain ⟨q, cap, rfl⟩ : ∃ q cap, v = .slice q l.length cap := by obtain ⟨_, q, cap, h, _⟩ := hs; exact ⟨q, cap, h⟩
  clear hs ha
  unfold isA
  generalize line l name = r at *
  go_enter Tryz.func24, Tryz.ntmps24
  go_wp2_with fail
  refine (HL _ (Bel.refl _)).out.mono ?_
  rintro e w' ⟨u, rfl, hu, hb⟩
  obtain ⟨q', cap', rfl⟩ : ∃ q' cap', u = .slice q' r.length cap' := by obtain ⟨_, q, cap, h, _⟩ := hu; exact ⟨q, cap, h⟩
  go_wp2_with fail
  refine (HI _ _ hu).out.mono ?_
  rintro e w2 ⟨rfl, hb2⟩
  go_wp2
  go_ret
  exact ⟨rfl, hb.trans hb2⟩

theorem one_any (k : Int) (w : World) : Calls Tryz.prog 21 #[.int .i64 k] w fun e w' => e = .returned (.bool (oneKind k)) ∧ w' = w := by
  go_enter Tryz.func21, Tryz.ntmps21
  unfold oneKind
  by_cases h1 : k = 1
  · subst h1; go_wp2; go_ret; exact ⟨rfl, rfl⟩
  by_cases h2 : k = 2
  · subst h2; go_wp2; go_ret; exact ⟨rfl, rfl⟩
  by_cases h4 : k = 4
  · subst h4; go_wp2; go_ret; exact ⟨rfl, rfl⟩
  by_cases h8 : k = 8
  · subst h8; go_wp2; go_ret; exact ⟨rfl, rfl⟩
  have e1 : (k == 1) = false := beq_eq_false_iff_ne.2 h1
  have e2 : (k == 2) = false := beq_eq_false_iff_ne.2 h2
  have e4 : (k == 4) = false := beq_eq_false_iff_ne.2 h4
  have e8 : (k == 8) = false := beq_eq_false_iff_ne.2 h8
  have r : decide (k = 1 ∨ k = 2 ∨ k = 4 ∨ k = 8) = false := decide_eq_false (by omega)
  rw [r]
  clear h1 h2 h4 h8
  go_wp2
  go_ret
  exact ⟨rfl, rfl⟩
end Go.Proofs.YtljeeehimcdmbaaGreatDoor
end
