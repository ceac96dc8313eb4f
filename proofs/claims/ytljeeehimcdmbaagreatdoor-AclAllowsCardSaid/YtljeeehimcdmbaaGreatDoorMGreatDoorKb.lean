/- The walks of dnkey.parts and dnkey.Depth. No condition. -/
import Derived.RangeFuncNested
import Derived.RangeFuncBound
import Derived.RangeFuncCalls
import Derived.RangeFuncLeaves
import Derived.RangeFuncBox
import Derived.Shelf.Abstract
import Derived.Shelf.RegionOpen
import Derived.WalkKit
import Derived.OwnWalkIn
import Derived.TacticsInMore
import Derived.LoopNIn
import Derived.LoopIn
import Derived.Lib.Hide
import Derived.Test.YtljeeehimcdmbaaGreatDoorMGreatDoorShelfA
import Derived.Test.YtljeeehimcdmbaaGreatDoorMGreatDoorKRf
import Derived.Test.YtljeeehimcdmbaaGreatDoorMGreatDoorKa
namespace Go.Proofs.YtljeeehimcdmbaaGreatDoor.Dk
open Go.RowKit Go.Shelf
attribute [local go_sem] Oper.semAt_some

/-- How many bytes the cell kb holds. -/
def keyLeft (kb : Nat) (w : World) : Nat := match w.cell? ⟨kb, 0, none⟩ with | some (.string s) => s.size | _ => 0

theorem parts_any (s : ByteArray) (w : World) : Calls Tryz.prog 72 #[.string s] w fun e w' => e = .returned (.func (.func 96) #[] #[.pointer (some ⟨w.heap.size, 0, none⟩)]) ∧ w' = w.alloc (.cells #[.string s] 9) := by
  go_enter Tryz.func72, Tryz.ntmps72
  go_wp2
  go_ret
  exact ⟨rfl, rfl⟩

/-- What the parts of bytes are, as they come: all are parts, and so many; or one is none. -/
def GivesAll (l : List UInt8) (xs : List (ByteArray × Bool)) : Prop :=
  (Key.depth l = some xs.length ∧ ∀ x ∈ xs, x.2 = true) ∨ (Key.depth l = none ∧ ∃ x ∈ xs, x.2 = false)
def GivesSome (l : List UInt8) (pre : List (ByteArray × Bool)) : Prop := (∃ x ∈ pre, x.2 = false) → Key.depth l = none

theorem cell_of_heap {w : World} {kb : Nat} {v : Value} {t : TypeId} (h : w.heap[kb]? = some (.cells #[v] t)) : w.cell? ⟨kb, 0, none⟩ = some v := by simp [World.cell?, h]
theorem free_of_heap {w : World} {kb : Nat} {v : Value} {t : TypeId} (h : w.heap[kb]? = some (.cells #[v] t)) : w.frozen? ⟨kb, 0, none⟩ = false := by simp [World.frozen?, h]
theorem heap_of_set {w : World} {kb : Nat} {v : Value} {t : TypeId} (h : w.heap[kb]? = some (.cells #[v] t)) (u : Value) : (w.setCell ⟨kb, 0, none⟩ u).heap[kb]? = some (.cells #[u] t) := by
  simp [World.setCell, Array.getElem?_modify, h]

set_option maxRecDepth 100000 in
set_option maxHeartbeats 1000000 in
theorem parts_seq (n kb : Nat) (hn : 1 ≤ n) (s : ByteArray) (hs : s.size ≤ 1000000) (w : World) (hw : w.heap[kb]? = some (.cells #[.string s] 9)) :
    SeqCell1 Fence.wide n Tryz.prog 96 #[.pointer (some ⟨kb, 0, none⟩)] (fun x : ByteArray × Bool => #[Value.string x.1, Value.bool x.2]) kb (GivesAll s.data.toList) (GivesSome s.data.toList) w := by
  intro l J Jx W hW hkW hJ hJx hY h0
  rw [hw] at hW
  refine callsIn_of_wp Tryz.func96 rfl trivial ?_ rfl
  simp only [Tryz.ntmps96, List.size_toArray, List.length_cons, List.length_nil, Nat.reduceAdd, Nat.reduceSub, Array.replicate_succ, Array.replicate_zero, List.push_toArray, List.append_toArray, List.nil_append, List.cons_append]
  gi_wp2
  gi_loopw [3] (fun t wr => ∃ (pre : List (ByteArray × Bool)) (rest : ByteArray), wr.heap[kb]? = some (.cells #[.string rest] 9) ∧ J pre wr ∧ rest.size ≤ s.size ∧ (∀ x ∈ pre, x.2 = true) ∧ Key.depth s.data.toList = (Key.depth rest.data.toList).map (· + pre.length))
    (fun t wr => keyLeft kb wr)
  case atStart =>
    exact ⟨[], s, hW, h0, Nat.le_refl _, by simp, by simp⟩
  case round =>
    obtain ⟨pre, rest, hh, hJs, hsz, hall, hd⟩ := hrel
    have hc := cell_of_heap hh
    have hf := free_of_heap hh
    have hlt : kb < wr.heap.size := (Array.getElem?_eq_some_iff.1 hh).1
    have HI := Lib.hid (Tryz.strings_IndexByte rest 0 wr)
    have HL : keyLeft kb wr = rest.size := by simp [keyLeft, hc]
    have Hall := Lib.hid hall
    have Hd := Lib.hid hd
    have Hh := Lib.hid hh
    have HHL := Lib.hid HL
    clear hall hd hh HL
    by_cases he : rest.data.toList = []
    · have hz : rest = ⟨#[]⟩ := by
        rw [← Lib.mk_data rest, he]
      subst hz
      gi_wp2
      go_end0
      refine ⟨⟨_, rfl⟩, .inl ⟨pre, .inl ⟨?_, Hall.out⟩, hJs⟩⟩
      rw [Hd.out]
      simp [Key.depth, Key.scan]
    · have hne : rest.data.toList.isEmpty = false := by cases h : rest.data.toList with | nil => exact absurd h he | cons _ _ => rfl
      have hne2 : rest.toList.isEmpty = false := by rw [Lib.toList_data]; exact hne
      have hne3 : ¬ rest.toList = [] := by rw [Lib.toList_data]; exact he
      obtain ⟨i, hi⟩ : ∃ i, i = Lib.indexByte rest.data.toList 0 := ⟨_, rfl⟩
      rw [show (Int.toNat 0).toUInt8 = 0 from rfl, ← hi] at HI
      have Hi := Lib.hid hi
      by_cases hi1 : i < 1
      · have hnone : Key.depth rest.data.toList = none := by
          have := Lib.indexByte_ge rest.data.toList 0
          rcases (by omega : i = -1 ∨ i = 0) with h | h
          · rw [Key.depth, Key.index_none _ (by omega), hne]; rfl
          · exact Key.index_zero _ (by omega)
        have hnone' : Key.depth s.data.toList = none := by rw [Hd.out, hnone]; rfl
        have Hn := Lib.hid hnone'
        have d1 : decide (i < 1) = true := decide_eq_true hi1
        obtain ⟨fn, tmps, assign, body, hy, hR⟩ := hY pre (rest, false) wr hJs hlt
        dsimp only at hy
        clear hnone hnone' hi
        gi_wp2_with (refine ⟨trivial, ?_⟩; refine (callsIn_wide.2 HI.out).mono ?_; rintro e w' ⟨rfl, rfl⟩)
        refine hR.mono ?_
        rintro e W3 (⟨rfl, hJ3, hk3⟩ | ⟨rfl, hJx3⟩)
        · gi_wp2
          refine bodyPost_ret (results_none rfl _ _ _) rfl ?_
          exact ⟨⟨_, rfl⟩, .inl ⟨pre ++ [(rest, false)], .inr ⟨Hn.out, (rest, false), by simp, rfl⟩, hJ3⟩⟩
        · gi_wp2
          refine bodyPost_ret (results_none rfl _ _ _) rfl ?_
          exact ⟨⟨_, rfl⟩, .inr ⟨pre ++ [(rest, false)], fun _ => Hn.out, hJx3⟩⟩
      · obtain ⟨m, hm⟩ : ∃ m : Nat, i = (m : Int) := ⟨i.toNat, by omega⟩
        subst hm
        obtain ⟨h1, h2⟩ := Key.index_some _ m hi.symm
        have hsz2 : m < rest.size := by rw [Lib.size_eq]; exact h1
        have hdep : Key.depth rest.data.toList = (Key.depth (rest.data.toList.drop (m + 1))).map (· + 1) := h2 false (.inr (by omega))
        have Hdep := Lib.hid hdep
        have d1 : decide ((m : Int) < 1) = false := decide_eq_false hi1
        clear h1 h2 hdep hi
        obtain ⟨fn, tmps, assign, body, hy, hR⟩ := hY pre (rest.extract 0 (m + 1), true) wr hJs hlt
        dsimp only at hy
        have q1 : (0 : Int) ≤ (m : Int) + 1 := by omega
        have q2 : (m : Int) + 1 ≤ (rest.size : Int) := by omega
        gi_wp2_with (refine ⟨trivial, ?_⟩; refine (callsIn_wide.2 HI.out).mono ?_; rintro e w' ⟨rfl, rfl⟩)
        refine hR.mono ?_
        rintro e W3 (⟨rfl, hJ3, hk3, hs3⟩ | ⟨rfl, hJx3⟩)
        · have hh3 := hk3.trans Hh.out
          have hc3 := cell_of_heap hh3
          have hf3 := free_of_heap hh3
          have Hh3 := Lib.hid hh3
          have Hk3 := Lib.hid hk3
          clear hk3 hh3 hc hf
          gi_wp2
          go_roundw
          case rel =>
            refine ⟨pre ++ [(rest.extract 0 (m + 1), true)], rest.extract (m + 1) rest.size, ?_, hJ _ _ _ hJ3 (grownBy_setCell' _ _ _), ?_, ?_, ?_⟩
            · exact heap_of_set Hh3.out _
            · simp; omega
            · intro x hx
              rcases List.mem_append.1 hx with h | h
              · exact Hall.out x h
              · simp at h; subst h; rfl
            · rw [Hd.out, Hdep.out, Lib.extract_data]
              have e : ((rest.data.toList.drop (m + 1)).take (rest.size - (m + 1))) = rest.data.toList.drop (m + 1) := List.take_of_length_le (by rw [List.length_drop, Lib.size_eq]; omega)
              rw [e, Option.map_map]
              congr 1
              funext y
              simp; omega
          case measure =>
            rw [HHL.out]
            unfold keyLeft
            rw [cell_of_heap (heap_of_set Hh3.out _)]
            simp; omega
        · gi_wp2
          refine bodyPost_ret (results_none rfl _ _ _) rfl ?_
          refine ⟨⟨_, rfl⟩, .inr ⟨pre ++ [(rest.extract 0 (m + 1), true)], ?_, hJx3⟩⟩
          rintro ⟨x, hx, hf⟩
          rcases List.mem_append.1 hx with h | h
          · rw [Hall.out x h] at hf; cases hf
          · simp at h; subst h; cases hf

def depthI (s : ByteArray) : Int := match Key.depth s.data.toList with | some d => d | none => -1

set_option maxRecDepth 100000 in
set_option maxHeartbeats 2000000 in
theorem depth_any (s : ByteArray) (hs : s.size ≤ 1000000) (w : World) :
    Calls Tryz.prog 51 #[.string s] w fun e W' => e = .returned (.int .i64 (depthI s)) ∧ Below w.heap.size w W' := by
  refine (callsIn_wide (n := 4)).1 ?_
  refine callsIn_of_wp_marks Tryz.func51 rfl trivial ?_ rfl
  simp only [Tryz.ntmps51, List.size_toArray, List.length_cons, List.length_nil, Nat.reduceAdd, Nat.reduceSub, Array.replicate_succ, Array.replicate_zero, List.push_toArray, List.append_toArray, List.nil_append, List.cons_append]
  gi_wp2_with (refine ⟨trivial, ?_⟩; refine (callsIn_wide.2 (parts_any s _)).mono ?_; rintro e w' ⟨rfl, rfl⟩)
  obtain ⟨B, hB⟩ : ∃ B, B = w.heap.size := ⟨_, rfl⟩
  obtain ⟨W0, hW0⟩ : ∃ W0, W0 = ((w.alloc (Obj.cells #[Value.int IntKind.i64 0] 3)).alloc (Obj.cells #[Value.int IntKind.i64 0] 3)).alloc (Obj.cells #[Value.string s] 9) := ⟨_, rfl⟩
  have hsz : W0.heap.size = B + 3 := by rw [hW0, hB]; simp
  have hbel : Below B w W0 := by rw [hW0, hB]; exact (((Below.refl _ w).alloc (Nat.le_refl _) _).alloc (by simp) _).alloc (by simp; omega) _
  have b0 : W0.heap[B]? = some (.cells #[.int .i64 0] 3) := by
    rw [hW0, hB]; exact (Below.heap_alloc _ _ _ (by simp; omega)).trans ((Below.heap_alloc _ _ _ (by simp)).trans (World.alloc_heap_new w _))
  have b1 : W0.heap[B + 1]? = some (.cells #[.int .i64 0] 3) := by
    have := World.alloc_heap_new (w.alloc (Obj.cells #[Value.int IntKind.i64 0] 3)) (Obj.cells #[Value.int IntKind.i64 0] 3)
    rw [World.size_alloc] at this
    rw [hW0, hB]; exact (Below.heap_alloc _ _ _ (by simp)).trans this
  have b2 : W0.heap[B + 2]? = some (.cells #[.string s] 9) := by
    have := World.alloc_heap_new ((w.alloc (Obj.cells #[Value.int IntKind.i64 0] 3)).alloc (Obj.cells #[Value.int IntKind.i64 0] 3)) (Obj.cells #[Value.string s] 9)
    rw [World.size_alloc, World.size_alloc] at this
    rw [hW0, hB]; exact this
  rw [← hW0, ← hB]
  clear hW0
  have hBw := Lib.hid hB
  clear hB
  refine wpIn_rangeFunc_cell1 rfl (by omega) (gf := 96) (lb := #[.pointer (some ⟨B + 1 + 1, 0, none⟩)]) rfl trivial (enters_of Tryz.func96 (by kernel_rfl) rfl)
    (kb := B + 2) (by omega) (parts_seq 3 (B + 2) (by omega) s hs W0 b2) (fun _ => rfl)
    (fun pre W => W.heap[B]? = some (.cells #[.int .i64 0] 3) ∧ W.heap[B + 1]? = some (.cells #[.int .i64 (wrap64 pre.length)] 3) ∧ (∀ x ∈ pre, x.2 = true) ∧ Below B w W)
    (fun c pre W => c = .ret ∧ (∃ x ∈ pre, x.2 = false) ∧ W.heap[B]? = some (.cells #[.int .i64 (-1)] 3) ∧ Below B w W)
    ?oI ?oX ?kI ?kX ⟨b0, by simpa [wrap64] using b1, by simp, hbel⟩
    (fun x => { tmps := #[.string s, undef, .pointer (some ⟨B, 0, none⟩), .pointer (some ⟨B + 1, 0, none⟩), undef, .bool x.2, .string s, .func (.func 96) #[] #[.pointer (some ⟨B + 1 + 1, 0, none⟩)], .string x.1, .bool x.2, undef, undef, undef, undef, undef], defers := [] }) ?assign ?body ?done ?stop
  case oI =>
    rintro pre X Y row ⟨h0, h1, h2, h3⟩ hg hr
    refine ⟨(hg.block B (Array.getElem?_eq_some_iff.1 h0).1 (fun e => ?_)).trans h0, (hg.block (B + 1) (Array.getElem?_eq_some_iff.1 h1).1 (fun e => ?_)).trans h1, h2, h3.grown hg (by have := h3.size; rw [← hBw.out] at this; exact this) (fun k e => by have := (hr k e).1; omega)⟩
    · have := (hr _ e.symm).1; omega
    · have := (hr _ e.symm).1; omega
  case oX =>
    rintro c pre X Y row ⟨h0, h1, h2, h3⟩ hg hr
    refine ⟨h0, h1, (hg.block B (Array.getElem?_eq_some_iff.1 h2).1 (fun e => ?_)).trans h2, h3.grown hg (by have := h3.size; rw [← hBw.out] at this; exact this) (fun k e => by have := (hr k e).1; omega)⟩
    have := (hr _ e.symm).1; omega
  case kI =>
    rintro pre X Y ⟨h0, h1, h2, h3⟩ hg
    exact ⟨(hg.block B (Array.getElem?_eq_some_iff.1 h0).1 (by simp)).trans h0, (hg.block (B + 1) (Array.getElem?_eq_some_iff.1 h1).1 (by simp)).trans h1, h2, h3.grown hg (by have := h3.size; rw [← hBw.out] at this; exact this) (fun k e => by cases e; omega)⟩
  case kX =>
    rintro c pre X Y ⟨h0, h1, h2, h3⟩ hg
    exact ⟨h0, h1, (hg.block B (Array.getElem?_eq_some_iff.1 h2).1 (by simp)).trans h2, h3.grown hg (by have := h3.size; rw [← hBw.out] at this; exact this) (fun k e => by cases e; omega)⟩
  case assign =>
    intro l x W K hK
    gi_wp2
    exact hK
  case body =>
    rintro l pre ⟨part, ok⟩ W ⟨h0, h1, h2, h3⟩
    have c0 := cell_of_heap h0
    have f0 := free_of_heap h0
    have c1 := cell_of_heap h1
    have f1 := free_of_heap h1
    have H0 := Lib.hid h0
    have H1 := Lib.hid h1
    have H2 := Lib.hid h2
    clear h0 h1 h2
    cases ok
    · gi_wp2
      refine ⟨(KeepsOthers.setCell _ _ _).from _, rfl, ⟨(part, false), by simp, rfl⟩, heap_of_set H0.out _, h3.setCell (Nat.le_refl _) _⟩
    · gi_wp2
      refine ⟨(KeepsOthers.setCell _ _ _).from _, Below.heap_setCell _ _ _ _ (by simp), (Below.heap_setCell _ _ _ _ (by simp)).trans H0.out, ?_, ?_, h3.setCell (by simp) _⟩
      · rw [heap_of_set H1.out]
        have : wrap64 (wrap64 (pre.length : Int) + 1) = wrap64 ((pre.length : Int) + 1) := by unfold wrap64; omega
        simp [this]
      · intro x hx
        rcases List.mem_append.1 hx with h | h
        · exact H2.out x h
        · simp at h; subst h; rfl
  case done =>
    rintro D ys W hD hS ⟨h0, h1, h2, h3⟩ hK
    have c0 := cell_of_heap h0
    have f0 := free_of_heap h0
    have c1 := cell_of_heap h1
    have H0 := Lib.hid h0
    clear h0 h1
    have HS := Lib.hid hS
    have H2 := Lib.hid h2
    clear hS h2
    gi_wp2
    have hK' := (KeepsOthers.setCell W ⟨B, 0, none⟩ (.int .i64 (wrap64 ys.length))).same D _ hK rfl
    refine ⟨by simp, .inl ⟨_, _, rfl, run_takeDeferred hK', ?_⟩⟩
    have hc5 := cell_kept (cell_of_heap (heap_of_set H0.out (.int .i64 (wrap64 ys.length)))) (grownBy_putObj' _ D (.deferred none)) (fun r e => by cases e; exact ⟨_, hK', rfl⟩)
    have hd : depthI s = wrap64 ys.length := by
      rcases HS.out with ⟨h, _⟩ | ⟨_, x, hx, hf⟩
      · have hl := Key.depth_le _ _ h
        rw [← Lib.size_eq] at hl
        unfold depthI
        rw [h]
        have : wrap64 (ys.length : Int) = ys.length := by unfold wrap64; omega
        exact this.symm
      · rw [H2.out x hx] at hf; cases hf
    refine ⟨.int .i64 (wrap64 ys.length), ?_, by rw [hd], ?_⟩
    · simp [results, Tryz.f51, go_sem, hc5]
    · rw [← hBw.out]
      exact (h3.setCell (p := ⟨B, 0, none⟩) (Nat.le_refl _) _).trans ((Below.refl B _).grown (grownBy_putObj' _ D (.deferred none)) (by have := h3.size; simp [World.setCell]; rw [← hBw.out] at this; exact this) (fun k e => by cases e; omega))
  case stop =>
    rintro D c pre W hD hS ⟨rfl, h1, h2, h3⟩ hK
    have c0 := cell_of_heap h2
    have HS := Lib.hid (hS h1)
    clear hS h1 h2
    gi_wp2
    refine ⟨by simp, .inl ⟨_, _, rfl, run_takeDeferred hK, ?_⟩⟩
    have hc5 := cell_kept c0 (grownBy_putObj' _ D (.deferred none)) (fun r e => by cases e; exact ⟨_, hK, rfl⟩)
    refine ⟨.int .i64 (-1), ?_, by unfold depthI; rw [HS.out], ?_⟩
    · simp [results, Tryz.f51, go_sem, hc5]
    · rw [← hBw.out]
      exact h3.trans ((Below.refl B _).grown (grownBy_putObj' _ D (.deferred none)) (by have := h3.size; rw [← hBw.out] at this; exact this) (fun k e => by cases e; omega))
end Go.Proofs.YtljeeehimcdmbaaGreatDoor.Dk
