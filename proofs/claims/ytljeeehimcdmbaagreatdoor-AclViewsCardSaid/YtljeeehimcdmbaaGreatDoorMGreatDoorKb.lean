/- AclViews: parts of its proof. No condition. -/
import Derived.RangeFuncNested
import Derived.RangeFuncBound
import Derived.RangeFuncCalls
import Derived.RangeFuncLeaves
import Derived.RangeFuncBox
import Derived.Shelf.Abstract
import Derived.Shelf.RegionOpen
import Derived.WalkKit
import Derived.OwnWalkIn
import Derived.TacticsInMore
import Derived.LoopNIn
import Derived.LoopIn
import Derived.Lib.Hide
import Derived.Test.YtljeeehimcdmbaaGreatDoorMGreatDoorShelfA
import Derived.Test.YtljeeehimcdmbaaGreatDoorMGreatDoorKRf
import Derived.Test.YtljeeehimcdmbaaGreatDoorMGreatDoorKRf
import Derived.Handy
import Derived.Deep.QuietTactic
import Derived.BigQuiet
import Derived.Lib.Strings
section
/- The walks of dnkey.parts and dnkey.Depth. No condition. -/
namespace Go.Proofs.YtljeeehimcdmbaaGreatDoor.Dk
open Go.RowKit Go.Shelf
attribute [local go_sem] Oper.semAt_some

/-- How many bytes the cell kb holds. -/
def keyLeft (kb : Nat) (w : World) : Nat := match w.cell? ⟨kb, 0, none⟩ with | some (.string s) => s.size | _ => 0

theorem parts_any (s : ByteArray) (w : World) : Calls Tryz.prog 72 #[.string s] w fun e w' => e = .returned (.func (.func 96) #[] #[.pointer (some ⟨w.heap.size, 0, none⟩)]) ∧ w' = w.alloc (.cells #[.string s] 9) := by
  go_enter Tryz.func72, Tryz.ntmps72
  go_wp2
  go_ret
  exact ⟨rfl, rfl⟩

/-- What the parts of bytes are, as they come: all are parts, and so many; or one is none. -/
def GivesAll (l : List UInt8) (xs : List (ByteArray × Bool)) : Prop :=
  (Key.depth l = some xs.length ∧ ∀ x ∈ xs, x.2 = true) ∨ (Key.depth l = none ∧ ∃ x ∈ xs, x.2 = false)
def GivesSome (l : List UInt8) (pre : List (ByteArray × Bool)) : Prop := (∃ x ∈ pre, x.2 = false) → Key.depth l = none

theorem cell_of_heap {w : World} {kb : Nat} {v : Value} {t : TypeId} (h : w.heap[kb]? = some (.cells #[v] t)) : w.cell? ⟨kb, 0, none⟩ = some v := by simp [World.cell?, h]
theorem free_of_heap {w : World} {kb : Nat} {v : Value} {t : TypeId} (h : w.heap[kb]? = some (.cells #[v] t)) : w.frozen? ⟨kb, 0, none⟩ = false := by simp [World.frozen?, h]
theorem heap_of_set {w : World} {kb : Nat} {v : Value} {t : TypeId} (h : w.heap[kb]? = some (.cells #[v] t)) (u : Value) : (w.setCell ⟨kb, 0, none⟩ u).heap[kb]? = some (.cells #[u] t) := by
  simp [World.setCell, Array.getElem?_modify, h]

set_option maxRecDepth 100000 in
set_option maxHeartbeats 1000000 in
theorem parts_seq (n kb : Nat) (hn : 1 ≤ n) (s : ByteArray) (hs : s.size ≤ 1000000) (w : World) (hw : w.heap[kb]? = some (.cells #[.string s] 9)) :
    SeqCell1 Fence.wide n Tryz.prog 96 #[.pointer (some ⟨kb, 0, none⟩)] (fun x : ByteArray × Bool => #[Value.string x.1, Value.bool x.2]) kb (GivesAll s.data.toList) (GivesSome s.data.toList) w := by
  intro l J Jx W hW hkW hJ hJx hY h0
  rw [hw] at hW
  refine callsIn_of_wp Tryz.func96 rfl trivial ?_ rfl
  simp only [Tryz.ntmps96, List.size_toArray, List.length_cons, List.length_nil, Nat.reduceAdd, Nat.reduceSub, Array.replicate_succ, Array.replicate_zero, List.push_toArray, List.append_toArray, List.nil_append, List.cons_append]
  gi_wp2
  gi_loopw [3] (fun t wr => ∃ (pre : List (ByteArray × Bool)) (rest : ByteArray), wr.heap[kb]? = some (.cells #[.string rest] 9) ∧ J pre wr ∧ rest.size ≤ s.size ∧ (∀ x ∈ pre, x.2 = true) ∧ Key.depth s.data.toList = (Key.depth rest.data.toList).map (· + pre.length))
    (fun t wr => keyLeft kb wr)
  case atStart =>
    exact ⟨[], s, hW, h0, Nat.le_refl _, by simp, by simp⟩
  case round =>
    obtain ⟨pre, rest, hh, hJs, hsz, hall, hd⟩ := hrel
    have hc := cell_of_heap hh
    have hf := free_of_heap hh
    have hlt : kb < wr.heap.size := (Array.getElem?_eq_some_iff.1 hh).1
    have HI := Lib.hid (Tryz.strings_IndexByte rest 0 wr)
    have HL : keyLeft kb wr = rest.size := by simp [keyLeft, hc]
    have Hall := Lib.hid hall
    have Hd := Lib.hid hd
    have Hh := Lib.hid hh
    have HHL := Lib.hid HL
    clear hall hd hh HL
    by_cases he : rest.data.toList = []
    · have hz : rest = ⟨#[]⟩ := by
        rw [← Lib.mk_data rest, he]
      subst hz
      gi_wp2
      go_end0
      refine ⟨⟨_, rfl⟩, .inl ⟨pre, .inl ⟨?_, Hall.out⟩, hJs⟩⟩
      rw [Hd.out]
      simp [Key.depth, Key.scan]
    · have hne : rest.data.toList.isEmpty = false := by cases h : rest.data.toList with | nil => exact absurd h he | cons _ _ => rfl
      have hne2 : rest.toList.isEmpty = false := by rw [Lib.toList_data]; exact hne
      have hne3 : ¬ rest.toList = [] := by rw [Lib.toList_data]; exact he
      obtain ⟨i, hi⟩ : ∃ i, i = Lib.indexByte rest.data.toList 0 := ⟨_, rfl⟩
      rw [show (Int.toNat 0).toUInt8 = 0 from rfl, ← hi] at HI
      have Hi := Lib.hid hi
      by_cases hi1 : i < 1
      · have hnone : Key.depth rest.data.toList = none := by
          have := Lib.indexByte_ge rest.data.toList 0
          rcases (by omega : i = -1 ∨ i = 0) with h | h
          · rw [Key.depth, Key.index_none _ (by omega), hne]; rfl
          · exact Key.index_zero _ (by omega)
        have hnone' : Key.depth s.data.toList = none := by rw [Hd.out, hnone]; rfl
        have Hn := Lib.hid hnone'
        have d1 : decide (i < 1) = true := decide_eq_true hi1
        obtain ⟨fn, tmps, assign, body, hy, hR⟩ := hY pre (rest, false) wr hJs hlt
        dsimp only at hy
        clear hnone hnone' hi
        gi_wp2_with (refine ⟨trivial, ?_⟩; refine (callsIn_wide.2 HI.out).mono ?_; rintro e w' ⟨rfl, rfl⟩)
        refine hR.mono ?_
        rintro e W3 (⟨rfl, hJ3, hk3⟩ | ⟨rfl, hJx3⟩)
        · gi_wp2
          refine bodyPost_ret (results_none rfl _ _ _) rfl ?_
          exact ⟨⟨_, rfl⟩, .inl ⟨pre ++ [(rest, false)], .inr ⟨Hn.out, (rest, false), by simp, rfl⟩, hJ3⟩⟩
        · gi_wp2
          refine bodyPost_ret (results_none rfl _ _ _) rfl ?_
          exact ⟨⟨_, rfl⟩, .inr ⟨pre ++ [(rest, false)], fun _ => Hn.out, hJx3⟩⟩
      · obtain ⟨m, hm⟩ : ∃ m : Nat, i = (m : Int) := ⟨i.toNat, by omega⟩
        subst hm
        obtain ⟨h1, h2⟩ := Key.index_some _ m hi.symm
        have hsz2 : m < rest.size := by rw [Lib.size_eq]; exact h1
        have hdep : Key.depth rest.data.toList = (Key.depth (rest.data.toList.drop (m + 1))).map (· + 1) := h2 false (.inr (by omega))
        have Hdep := Lib.hid hdep
        have d1 : decide ((m : Int) < 1) = false := decide_eq_false hi1
        clear h1 h2 hdep hi
        obtain ⟨fn, tmps, assign, body, hy, hR⟩ := hY pre (rest.extract 0 (m + 1), true) wr hJs hlt
        dsimp only at hy
        have q1 : (0 : Int) ≤ (m : Int) + 1 := by omega
        have q2 : (m : Int) + 1 ≤ (rest.size : Int) := by omega
        gi_wp2_with (refine ⟨trivial, ?_⟩; refine (callsIn_wide.2 HI.out).mono ?_; rintro e w' ⟨rfl, rfl⟩)
        refine hR.mono ?_
        rintro e W3 (⟨rfl, hJ3, hk3, hs3⟩ | ⟨rfl, hJx3⟩)
        · have hh3 := hk3.trans Hh.out
          have hc3 := cell_of_heap hh3
          have hf3 := free_of_heap hh3
          have Hh3 := Lib.hid hh3
          have Hk3 := Lib.hid hk3
          clear hk3 hh3 hc hf
          gi_wp2
          go_roundw
          case rel =>
            refine ⟨pre ++ [(rest.extract 0 (m + 1), true)], rest.extract (m + 1) rest.size, ?_, hJ _ _ _ hJ3 (grownBy_setCell' _ _ _), ?_, ?_, ?_⟩
            · exact heap_of_set Hh3.out _
            · simp; omega
            · intro x hx
              rcases List.mem_append.1 hx with h | h
              · exact Hall.out x h
              · simp at h; subst h; rfl
            · rw [Hd.out, Hdep.out, Lib.extract_data]
              have e : ((rest.data.toList.drop (m + 1)).take (rest.size - (m + 1))) = rest.data.toList.drop (m + 1) := List.take_of_length_le (by rw [List.length_drop, Lib.size_eq]; omega)
              rw [e, Option.map_map]
              congr 1
              funext y
              simp; omega
          case measure =>
            rw [HHL.out]
            unfold keyLeft
            rw [cell_of_heap (heap_of_set Hh3.out _)]
            simp; omega
        · gi_wp2
          refine bodyPost_ret (results_none rfl _ _ _) rfl ?_
          refine ⟨⟨_, rfl⟩, .inr ⟨pre ++ [(rest.extract 0 (m + 1), true)], ?_, hJx3⟩⟩
          rintro ⟨x, hx, hf⟩
          rcases List.mem_append.1 hx with h | h
          · rw [Hall.out x h] at hf; cases hf
          · simp at h; subst h; cases hf

def depthI (s : ByteArray) : Int := match Key.depth s.data.toList with | some d => d | none => -1

set_option maxRecDepth 100000 in
set_option maxHeartbeats 2000000 in
theorem depth_any (s : ByteArray) (hs : s.size ≤ 1000000) (w : World) :
    Calls Tryz.prog 51 #[.string s] w fun e W' => e = .returned (.int .i64 (depthI s)) ∧ Below w.heap.size w W' := by
  refine (callsIn_wide (n := 4)).1 ?_
  refine callsIn_of_wp_marks Tryz.func51 rfl trivial ?_ rfl
  simp only [Tryz.ntmps51, List.size_toArray, List.length_cons, List.length_nil, Nat.reduceAdd, Nat.reduceSub, Array.replicate_succ, Array.replicate_zero, List.push_toArray, List.append_toArray, List.nil_append, List.cons_append]
  gi_wp2_with (refine ⟨trivial, ?_⟩; refine (callsIn_wide.2 (parts_any s _)).mono ?_; rintro e w' ⟨rfl, rfl⟩)
  obtain ⟨B, hB⟩ : ∃ B, B = w.heap.size := ⟨_, rfl⟩
  obtain ⟨W0, hW0⟩ : ∃ W0, W0 = ((w.alloc (Obj.cells #[Value.int IntKind.i64 0] 3)).alloc (Obj.cells #[Value.int IntKind.i64 0] 3)).alloc (Obj.cells #[Value.string s] 9) := ⟨_, rfl⟩
  have hsz : W0.heap.size = B + 3 := by rw [hW0, hB]; simp
  have hbel : Below B w W0 := by rw [hW0, hB]; exact (((Below.refl _ w).alloc (Nat.le_refl _) _).alloc (by simp) _).alloc (by simp; omega) _
  have b0 : W0.heap[B]? = some (.cells #[.int .i64 0] 3) := by
    rw [hW0, hB]; exact (Below.heap_alloc _ _ _ (by simp; omega)).trans ((Below.heap_alloc _ _ _ (by simp)).trans (World.alloc_heap_new w _))
  have b1 : W0.heap[B + 1]? = some (.cells #[.int .i64 0] 3) := by
    have := World.alloc_heap_new (w.alloc (Obj.cells #[Value.int IntKind.i64 0] 3)) (Obj.cells #[Value.int IntKind.i64 0] 3)
    rw [World.size_alloc] at this
    rw [hW0, hB]; exact (Below.heap_alloc _ _ _ (by simp)).trans this
  have b2 : W0.heap[B + 2]? = some (.cells #[.string s] 9) := by
    have := World.alloc_heap_new ((w.alloc (Obj.cells #[Value.int IntKind.i64 0] 3)).alloc (Obj.cells #[Value.int IntKind.i64 0] 3)) (Obj.cells #[Value.string s] 9)
    rw [World.size_alloc, World.size_alloc] at this
    rw [hW0, hB]; exact this
  rw [← hW0, ← hB]
  clear hW0
  have hBw := Lib.hid hB
  clear hB
  refine wpIn_rangeFunc_cell1 rfl (by omega) (gf := 96) (lb := #[.pointer (some ⟨B + 1 + 1, 0, none⟩)]) rfl trivial (enters_of Tryz.func96 (by kernel_rfl) rfl)
    (kb := B + 2) (by omega) (parts_seq 3 (B + 2) (by omega) s hs W0 b2) (fun _ => rfl)
    (fun pre W => W.heap[B]? = some (.cells #[.int .i64 0] 3) ∧ W.heap[B + 1]? = some (.cells #[.int .i64 (wrap64 pre.length)] 3) ∧ (∀ x ∈ pre, x.2 = true) ∧ Below B w W)
    (fun c pre W => c = .ret ∧ (∃ x ∈ pre, x.2 = false) ∧ W.heap[B]? = some (.cells #[.int .i64 (-1)] 3) ∧ Below B w W)
    ?oI ?oX ?kI ?kX ⟨b0, by simpa [wrap64] using b1, by simp, hbel⟩
    (fun x => { tmps := #[.string s, undef, .pointer (some ⟨B, 0, none⟩), .pointer (some ⟨B + 1, 0, none⟩), undef, .bool x.2, .string s, .func (.func 96) #[] #[.pointer (some ⟨B + 1 + 1, 0, none⟩)], .string x.1, .bool x.2, undef, undef, undef, undef, undef], defers := [] }) ?assign ?body ?done ?stop
  case oI =>
    rintro pre X Y row ⟨h0, h1, h2, h3⟩ hg hr
    refine ⟨(hg.block B (Array.getElem?_eq_some_iff.1 h0).1 (fun e => ?_)).trans h0, (hg.block (B + 1) (Array.getElem?_eq_some_iff.1 h1).1 (fun e => ?_)).trans h1, h2, h3.grown hg (by have := h3.size; rw [← hBw.out] at this; exact this) (fun k e => by have := (hr k e).1; omega)⟩
    · have := (hr _ e.symm).1; omega
    · have := (hr _ e.symm).1; omega
  case oX =>
    rintro c pre X Y row ⟨h0, h1, h2, h3⟩ hg hr
    refine ⟨h0, h1, (hg.block B (Array.getElem?_eq_some_iff.1 h2).1 (fun e => ?_)).trans h2, h3.grown hg (by have := h3.size; rw [← hBw.out] at this; exact this) (fun k e => by have := (hr k e).1; omega)⟩
    have := (hr _ e.symm).1; omega
  case kI =>
    rintro pre X Y ⟨h0, h1, h2, h3⟩ hg
    exact ⟨(hg.block B (Array.getElem?_eq_some_iff.1 h0).1 (by simp)).trans h0, (hg.block (B + 1) (Array.getElem?_eq_some_iff.1 h1).1 (by simp)).trans h1, h2, h3.grown hg (by have := h3.size; rw [← hBw.out] at this; exact this) (fun k e => by cases e; omega)⟩
  case kX =>
    rintro c pre X Y ⟨h0, h1, h2, h3⟩ hg
    exact ⟨h0, h1, (hg.block B (Array.getElem?_eq_some_iff.1 h2).1 (by simp)).trans h2, h3.grown hg (by have := h3.size; rw [← hBw.out] at this; exact this) (fun k e => by cases e; omega)⟩
  case assign =>
    intro l x W K hK
    gi_wp2
    exact hK
  case body =>
    rintro l pre ⟨part, ok⟩ W ⟨h0, h1, h2, h3⟩
    have c0 := cell_of_heap h0
    have f0 := free_of_heap h0
    have c1 := cell_of_heap h1
    have f1 := free_of_heap h1
    have H0 := Lib.hid h0
    have H1 := Lib.hid h1
    have H2 := Lib.hid h2
    clear h0 h1 h2
    cases ok
    · gi_wp2
      refine ⟨(KeepsOthers.setCell _ _ _).from _, rfl, ⟨(part, false), by simp, rfl⟩, heap_of_set H0.out _, h3.setCell (Nat.le_refl _) _⟩
    · gi_wp2
      refine ⟨(KeepsOthers.setCell _ _ _).from _, Below.heap_setCell _ _ _ _ (by simp), (Below.heap_setCell _ _ _ _ (by simp)).trans H0.out, ?_, ?_, h3.setCell (by simp) _⟩
      · rw [heap_of_set H1.out]
        have : wrap64 (wrap64 (pre.length : Int) + 1) = wrap64 ((pre.length : Int) + 1) := by unfold wrap64; omega
        simp [this]
      · intro x hx
        rcases List.mem_append.1 hx with h | h
        · exact H2.out x h
        · simp at h; subst h; rfl
  case done =>
    rintro D ys W hD hS ⟨h0, h1, h2, h3⟩ hK
    have c0 := cell_of_heap h0
    have f0 := free_of_heap h0
    have c1 := cell_of_heap h1
    have H0 := Lib.hid h0
    clear h0 h1
    have HS := Lib.hid hS
    have H2 := Lib.hid h2
    clear hS h2
    gi_wp2
    have hK' := (KeepsOthers.setCell W ⟨B, 0, none⟩ (.int .i64 (wrap64 ys.length))).same D _ hK rfl
    refine ⟨by simp, .inl ⟨_, _, rfl, run_takeDeferred hK', ?_⟩⟩
    have hc5 := cell_kept (cell_of_heap (heap_of_set H0.out (.int .i64 (wrap64 ys.length)))) (grownBy_putObj' _ D (.deferred none)) (fun r e => by cases e; exact ⟨_, hK', rfl⟩)
    have hd : depthI s = wrap64 ys.length := by
      rcases HS.out with ⟨h, _⟩ | ⟨_, x, hx, hf⟩
      · have hl := Key.depth_le _ _ h
        rw [← Lib.size_eq] at hl
        unfold depthI
        rw [h]
        have : wrap64 (ys.length : Int) = ys.length := by unfold wrap64; omega
        exact this.symm
      · rw [H2.out x hx] at hf; cases hf
    refine ⟨.int .i64 (wrap64 ys.length), ?_, by rw [hd], ?_⟩
    · simp [results, Tryz.f51, go_sem, hc5]
    · rw [← hBw.out]
      exact (h3.setCell (p := ⟨B, 0, none⟩) (Nat.le_refl _) _).trans ((Below.refl B _).grown (grownBy_putObj' _ D (.deferred none)) (by have := h3.size; simp [World.setCell]; rw [← hBw.out] at this; exact this) (fun k e => by cases e; omega))
  case stop =>
    rintro D c pre W hD hS ⟨rfl, h1, h2, h3⟩ hK
    have c0 := cell_of_heap h2
    have HS := Lib.hid (hS h1)
    clear hS h1 h2
    gi_wp2
    refine ⟨by simp, .inl ⟨_, _, rfl, run_takeDeferred hK, ?_⟩⟩
    have hc5 := cell_kept c0 (grownBy_putObj' _ D (.deferred none)) (fun r e => by cases e; exact ⟨_, hK, rfl⟩)
    refine ⟨.int .i64 (-1), ?_, by unfold depthI; rw [HS.out], ?_⟩
    · simp [results, Tryz.f51, go_sem, hc5]
    · rw [← hBw.out]
      exact h3.trans ((Below.refl B _).grown (grownBy_putObj' _ D (.deferred none)) (by have := h3.size; rw [← hBw.out] at this; exact this) (fun k e => by cases e; omega))
end Go.Proofs.YtljeeehimcdmbaaGreatDoor.Dk
end

section
/- The walks of package dnkey but for parts, Depth and Text. No condition. -/
namespace Go.Proofs.YtljeeehimcdmbaaGreatDoor.Dk
open Go.RowKit

/-- The slice v reads as the texts ss. -/
def StrsAt (w : World) (v : Value) (ss : List ByteArray) : Prop :=
  ∃ a cap, v = .slice a ss.length cap ∧ ∀ i, i < ss.length → ∃ b off, a = some ⟨b, off, none⟩ ∧ w.cell? ⟨b, off + i, none⟩ = some (.string (ss.getD i ByteArray.empty))

theorem StrsAt.below {w w' : World} {v : Value} {ss : List ByteArray} (h : StrsAt w v ss) (hb : Below w.heap.size w w') : StrsAt w' v ss := by
  obtain ⟨a, cap, hv, hc⟩ := h
  refine ⟨a, cap, hv, fun i hi => ?_⟩
  obtain ⟨b, off, ha, hcell⟩ := hc i hi
  exact ⟨b, off, ha, (hb.cell (p := ⟨b, off + i, none⟩) (World.block_lt_of_cell? w _ hcell)).trans hcell⟩

theorem all_snoc {α : Type} (l : List α) (p : α → Bool) (d : α) (k : Nat) (h : k < l.length) : (l.take (k + 1)).all p = ((l.take k).all p && p (l.getD k d)) := by
  rw [List.take_succ_eq_append_getElem h, List.all_append]
  simp [List.getD_eq_getElem?_getD, h]

theorem depthI_neg (s : ByteArray) : depthI s < 0 ↔ Key.isKey s.data.toList = false := by
  unfold depthI Key.isKey
  cases Key.depth s.data.toList with
  | none => simp
  | some d => simp

set_option maxHeartbeats 400000 in
theorem keys_any (ss : List ByteArray) (hs : ∀ s ∈ ss, s.size ≤ 1000000) (v : Value) (w : World) (h : StrsAt w v ss) (hl : ss.length ≤ 1000) :
    Calls Tryz.prog 35 #[v] w fun e w' => e = .returned (.bool (ss.all fun s => Key.isKey s.data.toList)) ∧ Below w.heap.size w w' := by
  obtain ⟨a, cap, rfl, hc⟩ := h
  go_enter Tryz.func35, Tryz.ntmps35
  go_wp2
  go_loopw [7] (fun i wr => ∃ k : Nat, k ≤ ss.length ∧ i = .int .i64 k ∧ (ss.take k).all (fun s => Key.isKey s.data.toList) = true ∧ Below w.heap.size w wr) (fun i _ => ss.length - (intOf i).toNat)
  case atStart => exact ⟨0, Nat.zero_le _, rfl, rfl, Below.refl _ _⟩
  case round =>
    obtain ⟨k, hk, rfl, hall, hb⟩ := hrel
    by_cases hlt : k < ss.length
    · obtain ⟨b, off, rfl, hcell⟩ := hc k hlt
      have hbl : b < w.heap.size := World.block_lt_of_cell? w _ hcell
      have hcell' := (hb.cell (p := ⟨b, off + k, none⟩) hbl).trans hcell
      have HS := Lib.hid (all_snoc ss (fun s => Key.isKey s.data.toList) ByteArray.empty k hlt)
      have HP : Key.isKey (ss.getD k ByteArray.empty).data.toList = false → Hid (ss.all (fun s => Key.isKey s.data.toList) = false) := by
        intro hf
        show _ = _
        rw [List.all_eq_false]
        exact ⟨ss.getD k ByteArray.empty, by rw [List.getD_eq_getElem?_getD]; simp [hlt], by rw [hf]; simp⟩
      have hsz : (ss.getD k ByteArray.empty).size ≤ 1000000 := hs _ (by rw [List.getD_eq_getElem?_getD]; simp [hlt])
      have HD := fun w => Lib.hid (depth_any (ss.getD k ByteArray.empty) hsz w)
      have HN := Lib.hid (depthI_neg (ss.getD k ByteArray.empty))
      have Hall := Lib.hid hall
      clear hc hcell hall hs
      generalize ss.getD k ByteArray.empty = s at *
      generalize depthI s = d at *
      have hsl : k + 1 ≤ 1000 := by omega
      by_cases hd : d < 0
      · have hf := HP (HN.out.1 hd)
        have dd : decide (d < 0) = true := decide_eq_true hd
        clear HP
        go_wp2_with (go_at_call 51; refine ((HD _).out).mono ?_; rintro e w' ⟨rfl, hb2⟩)
        go_ret
        exact ⟨(by rw [hf.out] : Ending.returned (.bool false) = _), hb.trans (hb2.mono hb.size)⟩
      · have ht : Hid (Key.isKey s.data.toList = true) := by
          show _ = _
          cases hk2 : Key.isKey s.data.toList with
          | true => rfl
          | false => exact absurd (HN.out.2 hk2) hd
        have dd : decide (d < 0) = false := decide_eq_false hd
        clear HP
        go_wp2_with (go_at_call 51; refine ((HD _).out).mono ?_; rintro e w' ⟨rfl, hb2⟩)
        go_roundw
        case rel => exact ⟨k + 1, by omega, by go_num, by rw [HS.out, Hall.out, ht.out]; rfl, hb.trans (hb2.mono hb.size)⟩
        case measure => simp [intOf]; omega
    · have e : k = ss.length := by omega
      have HT := Lib.hid (List.take_of_length_le (l := ss) (Nat.le_of_eq e.symm))
      have Hall := Lib.hid hall
      have hd : decide (k < ss.length) = false := decide_eq_false hlt
      clear e hc hall hs
      go_wp2
      go_ret
      exact ⟨(by rw [← Hall.out, HT.out] : Ending.returned (.bool true) = _), hb⟩

theorem strsAt1 {w : World} {b : Nat} (x : ByteArray) (h0 : w.cell? ⟨b, 0, none⟩ = some (.string x)) : StrsAt w (.slice (some ⟨b, 0, none⟩) 1 1) [x] :=
  ⟨_, 1, rfl, fun i hi => ⟨b, 0, rfl, match i, hi with | 0, _ => h0⟩⟩
theorem strsAt2 {w : World} {b : Nat} (x y : ByteArray) (h0 : w.cell? ⟨b, 0, none⟩ = some (.string x)) (h1 : w.cell? ⟨b, 1, none⟩ = some (.string y)) : StrsAt w (.slice (some ⟨b, 0, none⟩) 2 2) [x, y] :=
  ⟨_, 2, rfl, fun i hi => ⟨b, 0, rfl, match i, hi with | 0, _ => h0 | 1, _ => h1⟩⟩
theorem strsAt3 {w : World} {b : Nat} (x y z : ByteArray) (h0 : w.cell? ⟨b, 0, none⟩ = some (.string x)) (h1 : w.cell? ⟨b, 1, none⟩ = some (.string y)) (h2 : w.cell? ⟨b, 2, none⟩ = some (.string z)) : StrsAt w (.slice (some ⟨b, 0, none⟩) 3 3) [x, y, z] :=
  ⟨_, 3, rfl, fun i hi => ⟨b, 0, rfl, match i, hi with | 0, _ => h0 | 1, _ => h1 | 2, _ => h2⟩⟩

def isK (s : ByteArray) : Bool := Key.isKey s.data.toList

theorem keys1 (x : ByteArray) (hx : x.size ≤ 1000000) (b : Nat) (w : World) (h0 : w.cell? ⟨b, 0, none⟩ = some (.string x)) :
    Calls Tryz.prog 35 #[.slice (some ⟨b, 0, none⟩) 1 1] w fun e w' => e = .returned (.bool (isK x)) ∧ Below w.heap.size w w' := by
  refine (keys_any [x] (by simpa using hx) _ w (strsAt1 x h0) (by simp)).mono ?_
  rintro e w' ⟨rfl, hb⟩
  exact ⟨by simp [isK], hb⟩
theorem keys2 (x y : ByteArray) (hx : x.size ≤ 1000000) (hy : y.size ≤ 1000000) (b : Nat) (w : World) (h0 : w.cell? ⟨b, 0, none⟩ = some (.string x)) (h1 : w.cell? ⟨b, 1, none⟩ = some (.string y)) :
    Calls Tryz.prog 35 #[.slice (some ⟨b, 0, none⟩) 2 2] w fun e w' => e = .returned (.bool (isK x && isK y)) ∧ Below w.heap.size w w' := by
  refine (keys_any [x, y] (by simp; exact ⟨hx, hy⟩) _ w (strsAt2 x y h0 h1) (by simp)).mono ?_
  rintro e w' ⟨rfl, hb⟩
  exact ⟨by simp [isK], hb⟩
theorem keys3 (x y z : ByteArray) (hx : x.size ≤ 1000000) (hy : y.size ≤ 1000000) (hz : z.size ≤ 1000000) (b : Nat) (w : World) (h0 : w.cell? ⟨b, 0, none⟩ = some (.string x)) (h1 : w.cell? ⟨b, 1, none⟩ = some (.string y)) (h2 : w.cell? ⟨b, 2, none⟩ = some (.string z)) :
    Calls Tryz.prog 35 #[.slice (some ⟨b, 0, none⟩) 3 3] w fun e w' => e = .returned (.bool (isK x && isK y && isK z)) ∧ Below w.heap.size w w' := by
  refine (keys_any [x, y, z] (by simp; exact ⟨hx, hy, hz⟩) _ w (strsAt3 x y z h0 h1 h2) (by simp)).mono ?_
  rintro e w' ⟨rfl, hb⟩
  exact ⟨by simp [isK, Bool.and_assoc], hb⟩

def underR (a b : ByteArray) : Bool := (isK a && isK b) && Lib.hasPrefix a.data.toList b.data.toList

theorem under_any (a b : ByteArray) (ha : a.size ≤ 1000000) (hb : b.size ≤ 1000000) (w : World) :
    Calls Tryz.prog 23 #[.string a, .string b] w fun e w' => e = .returned (.bool (underR a b)) ∧ Below w.heap.size w w' := by
  have H := fun k w h0 h1 => Lib.hid (keys2 a b ha hb k w h0 h1)
  have HP := fun w => Lib.hid (Tryz.strings_HasPrefix a b w)
  unfold underR
  generalize (isK a && isK b) = k at *
  generalize Lib.hasPrefix a.data.toList b.data.toList = p at *
  cases k
  · go_enter Tryz.func23, Tryz.ntmps23
    go_wp2_with fail
    refine ((H _ _ (by simp [go_sem]) (by simp [go_sem])).out).mono ?_; rintro e w' ⟨rfl, hb⟩
    go_wp2
    go_ret
    exact ⟨rfl, ((Below.refl _ _).alloc (Nat.le_refl _) _).trans (hb.mono (by simp))⟩
  · go_enter Tryz.func23, Tryz.ntmps23
    go_wp2_with fail
    refine ((H _ _ (by simp [go_sem]) (by simp [go_sem])).out).mono ?_; rintro e w' ⟨rfl, hb⟩
    go_wp2_with fail
    refine ((HP _).out).mono ?_; rintro e w' ⟨rfl, rfl⟩
    go_wp2
    go_ret
    exact ⟨by rw [Bool.true_and]; rfl, ((Below.refl _ _).alloc (Nat.le_refl _) _).trans (hb.mono (by simp))⟩

end Go.Proofs.YtljeeehimcdmbaaGreatDoor.Dk
end

section
/- The walks of the document's answer on keys. No condition. -/
namespace Go.Proofs.YtljeeehimcdmbaaGreatDoor.Dk
open Go.RowKit

/-- The error of bytes that are a key, or none. -/
def nameE (k : Bool) : Int := if k = true then 0 else 220

theorem byte_at (s : ByteArray) (k : Nat) (h : k < s.size) : s.data.toList.getD k 0 = s[k] := by
  have h' : k < s.data.size := h
  rw [List.getD_eq_getElem?_getD, Array.getElem?_toList, Array.getElem?_eq_getElem h']; rfl

theorem byte_zero (b : UInt8) : b.toNat = 0 ↔ b = 0 := ⟨fun h => UInt8.toNat_inj.1 h, fun h => by rw [h]; rfl⟩

/-- The two facts of a byte, in the walk's own spelling. -/
theorem byte_yes {b : UInt8} (h : b = 0) : b.toNat = 0 ∧ ((b.toNat : Int) == 0) = true ∧ ((b.toNat : Int) != 0) = false := by subst h; exact ⟨rfl, rfl, rfl⟩
theorem byte_no {b : UInt8} (h : ¬ b = 0) : ¬ b.toNat = 0 ∧ ((b.toNat : Int) == 0) = false ∧ ((b.toNat : Int) != 0) = true := by
  have : ¬ b.toNat = 0 := fun e => h ((byte_zero b).1 e)
  have h2 : ((b.toNat : Int) == 0) = false := beq_eq_false_iff_ne.2 (by omega)
  exact ⟨this, h2, by simp [bne, h2]⟩

set_option maxHeartbeats 1000000 in
theorem refCheck_any (s : ByteArray) (hs : s.size ≤ 1000000) (w : World) :
    Calls Tryz.prog 55 #[.string s] w fun e w' => e = .returned (.int .i64 (nameE (isK s))) ∧ w' = w := by
  go_enter Tryz.func55, Tryz.ntmps55
  go_wp2
  go_loop [3] (fun i => ∃ k : Nat, k ≤ s.size ∧ i = .int .i64 k ∧ Key.seen s.data.toList k) (fun i => s.size - (intOf i).toNat)
  case atStart => exact ⟨0, Nat.zero_le _, rfl, Key.seen_start _⟩
  case round =>
    obtain ⟨k, hk, rfl, hseen⟩ := hrel
    have hlen := Lib.size_eq s
    have Hs := Lib.hid hseen
    have Hl := Lib.hid hlen
    clear hseen
    by_cases hlt : k < s.size
    · have hb := byte_at s k hlt
      have hlt' : k < s.data.toList.length := by omega
      have Hlt := Lib.hid hlt'
      clear hlen hlt'
      by_cases hz : s[k] = 0
      · obtain ⟨z1, z2, z3⟩ := byte_yes hz
        have hz' : s.data.toList.getD k 0 = 0 := hb.trans hz
        have Hz := Lib.hid hz'
        clear hb hz hz'
        by_cases h0 : 0 < k
        · have hp := byte_at s (k - 1) (by omega)
          have q1 : (0 : Int) ≤ (k : Int) - 1 := by omega
          have q2 : (k : Int) - 1 < (s.size : Int) := by omega
          have q3 : ((k : Int) == 0) = false := beq_eq_false_iff_ne.2 (by omega)
          by_cases hpz : s[k - 1] = 0
          · obtain ⟨y1, y2, y3⟩ := byte_yes hpz
            have hbad : Hid (isK s = false) := Key.seen_bad _ k Hlt.out Hz.out (by unfold Key.begun; rw [hp, hpz]; simp) Hs.out
            clear hp hpz
            go_wp2
            go_ret
            exact ⟨(by rw [hbad.out]; rfl : Ending.returned (.int .i64 220) = Ending.returned (.int .i64 (nameE (isK s)))), rfl⟩
          · obtain ⟨y1, y2, y3⟩ := byte_no hpz
            have hnext : Hid (Key.seen s.data.toList (k + 1)) := Key.seen_step _ k Hlt.out (fun _ => by unfold Key.begun; rw [hp]; simp; exact ⟨h0, hpz⟩) Hs.out
            clear hp hpz
            go_wp2
            go_round
            case rel => exact ⟨k + 1, by omega, by go_num, hnext.out⟩
            case measure => simp [intOf]; omega
        · obtain rfl : k = 0 := by omega
          have hbad : Hid (isK s = false) := Key.seen_bad _ 0 Hlt.out Hz.out rfl Hs.out
          go_wp2
          go_ret
          exact ⟨(by rw [hbad.out]; rfl : Ending.returned (.int .i64 220) = Ending.returned (.int .i64 (nameE (isK s)))), rfl⟩
      · obtain ⟨z1, z2, z3⟩ := byte_no hz
        have hnext : Hid (Key.seen s.data.toList (k + 1)) := Key.seen_step _ k Hlt.out (fun h => absurd (hb.symm.trans h) hz) Hs.out
        clear hb hz
        go_wp2
        go_round
        case rel => exact ⟨k + 1, by omega, by go_num, hnext.out⟩
        case measure => simp [intOf]; omega
    · obtain rfl : k = s.size := by omega
      have hd : decide (s.size < s.size) = false := decide_eq_false (by omega)
      have hend : Hid (isK s = !(Key.begun s.data.toList s.size)) := by
        have h := Hs.out
        rw [hlen] at h ⊢
        exact Key.seen_end _ h
      clear hlen
      by_cases h0 : s.size = 0
      · have d0 : decide (0 < s.size) = false := decide_eq_false (by omega)
        have d1 : decide ((0 : Int) < (s.size : Int)) = false := decide_eq_false (by omega)
        have hyes : Hid (isK s = true) := by show _ = _; rw [hend.out, h0]; rfl
        have hlt0 : ¬ (0 : Int) < (s.size : Int) := by omega
        go_wp2
        go_ret
        exact ⟨(by rw [hyes.out]; rfl : Ending.returned (.int .i64 0) = Ending.returned (.int .i64 (nameE (isK s)))), rfl⟩
      · have hp := byte_at s (s.size - 1) (by omega)
        have q1 : (0 : Int) ≤ (s.size : Int) - 1 := by omega
        have q2 : (s.size : Int) - 1 < (s.size : Int) := by omega
        have hlt0 : (0 : Int) < (s.size : Int) := by omega
        have d0 : decide ((0 : Int) < (s.size : Int)) = true := decide_eq_true hlt0
        by_cases hpz : s[s.size - 1] = 0
        · obtain ⟨y1, y2, y3⟩ := byte_yes hpz
          have hyes : Hid (isK s = true) := by show _ = _; rw [hend.out]; unfold Key.begun; rw [hp, hpz]; simp
          clear hp hpz
          go_wp2
          go_ret
          exact ⟨(by rw [hyes.out]; rfl : Ending.returned (.int .i64 0) = Ending.returned (.int .i64 (nameE (isK s)))), rfl⟩
        · obtain ⟨y1, y2, y3⟩ := byte_no hpz
          have hno : Hid (isK s = false) := by show _ = _; rw [hend.out]; unfold Key.begun; rw [hp]; simp; exact ⟨by omega, hpz⟩
          clear hp hpz
          go_wp2
          go_ret
          exact ⟨(by rw [hno.out]; rfl : Ending.returned (.int .i64 220) = Ending.returned (.int .i64 (nameE (isK s)))), rfl⟩

theorem underR_raw (a b : ByteArray) (h : b.size ≤ a.size) : ((a.extract 0 b.size).toList == b.toList) = Lib.hasPrefix a.data.toList b.data.toList := by
  rw [← Lib.hasPrefix_raw, decide_eq_true h, Bool.true_and]
theorem underR_long (a b : ByteArray) (h : ¬ b.size ≤ a.size) : Lib.hasPrefix a.data.toList b.data.toList = false := by
  rw [← Lib.hasPrefix_raw, decide_eq_false h, Bool.false_and]

set_option maxHeartbeats 400000 in
theorem refUnder_any (a b : ByteArray) (ha : a.size ≤ 1000000) (hb : b.size ≤ 1000000) (w : World) :
    Calls Tryz.prog 40 #[.string a, .string b] w fun e w' => e = .returned (.bool (underR a b)) ∧ w' = w := by
  have H1 := fun w => Lib.hid (refCheck_any a ha w)
  have H2 := fun w => Lib.hid (refCheck_any b hb w)
  have HR := fun h => Lib.hid (underR_raw a b h)
  have HL := fun h => Lib.hid (underR_long a b h)
  unfold underR
  generalize isK a = x at *
  generalize isK b = y at *
  cases x
  · simp only [nameE, Bool.false_eq_true, if_false] at H1
    clear HR HL
    go_enter Tryz.func40, Tryz.ntmps40
    go_wp2_with fail
    refine ((H1 _).out).mono ?_; rintro e w' ⟨rfl, rfl⟩
    go_wp2
    go_ret
    exact ⟨rfl, rfl⟩
  · simp only [nameE, if_true] at H1
    cases y
    · simp only [nameE, Bool.false_eq_true, if_false] at H2
      clear HR HL
      go_enter Tryz.func40, Tryz.ntmps40
      go_wp2_with fail
      refine ((H1 _).out).mono ?_; rintro e w' ⟨rfl, rfl⟩
      go_wp2_with fail
      refine ((H2 _).out).mono ?_; rintro e w' ⟨rfl, rfl⟩
      go_wp2
      go_ret
      exact ⟨rfl, rfl⟩
    · simp only [nameE, if_true] at H2
      by_cases hsz : b.size ≤ a.size
      · have hr := HR hsz
        clear HR HL
        have d1 : decide (b.size ≤ a.size) = true := decide_eq_true hsz
        have q1 : (0 : Int) ≤ (b.size : Int) := by omega
        have q2 : (b.size : Int) ≤ (a.size : Int) := by omega
        go_enter Tryz.func40, Tryz.ntmps40
        go_wp2_with fail
        refine ((H1 _).out).mono ?_; rintro e w' ⟨rfl, rfl⟩
        go_wp2_with fail
        refine ((H2 _).out).mono ?_; rintro e w' ⟨rfl, rfl⟩
        go_wp2
        go_ret
        exact ⟨by rw [← hr.out]; rfl, rfl⟩
      · have hr := HL hsz
        clear HR HL
        have d1 : decide (b.size ≤ a.size) = false := decide_eq_false hsz
        go_enter Tryz.func40, Tryz.ntmps40
        go_wp2_with fail
        refine ((H1 _).out).mono ?_; rintro e w' ⟨rfl, rfl⟩
        go_wp2_with fail
        refine ((H2 _).out).mono ?_; rintro e w' ⟨rfl, rfl⟩
        go_wp2
        go_ret
        exact ⟨by rw [hr.out]; rfl, rfl⟩

end Go.Proofs.YtljeeehimcdmbaaGreatDoor.Dk
end
