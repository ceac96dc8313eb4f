/- The walks of attrs.up and of the iterator that it makes. No condition. -/
import Derived.RangeFuncNested
import Derived.RangeFuncBound
import Derived.RangeFuncCalls
import Derived.RangeFuncLeaves
import Derived.RangeFuncBox
import Derived.Shelf.Abstract
import Derived.Shelf.RegionOpen
import Derived.WalkKit
import Derived.OwnWalkIn
import Derived.TacticsInMore
import Derived.LoopNIn
import Derived.LoopIn
import Derived.Lib.Hide
import Derived.Test.YtljeeehimcdmbaaGreatDoorMGreatDoorRg
import Derived.Test.YtljeeehimcdmbaaGreatDoorMGreatDoorAt4
namespace Go.Proofs.YtljeeehimcdmbaaGreatDoor
open Go.RowKit Go.Wd Go.Dir Go.Shelf
attribute [local go_sem] Oper.semAt_some

theorem up_any (q : Option Addr) (m cap : Nat) (name : ByteArray) (w : World) : Calls Tryz.prog 58 #[.slice q m cap, .string name] w fun e w' =>
    e = .returned (.func (.func 76) #[] #[.pointer (some ⟨w.heap.size, 0, none⟩), .pointer (some ⟨w.heap.size + 1, 0, none⟩)]) ∧ w' = (w.alloc (.cells #[.slice q m cap] 22)).alloc (.cells #[.string name] 9) := by
  go_enter Tryz.func58, Tryz.ntmps58
  go_wp2
  go_ret
  exact ⟨rfl, rfl⟩

set_option maxRecDepth 100000 in
set_option maxHeartbeats 1000000 in
theorem up_seq (n kl kb : Nat) (hn : 1 ≤ n) (Kp : Nat → Prop) (hkl : Kp kl) (hkb : Kp kb) (hne : kl ≠ kb) (l : List Attr) (v : Value) (hv : ∀ b, inBlock v b → 0 < l.length * 6 → Kp b ∧ b ≠ kb) (hl : l.length < 1000000) (name : ByteArray) (w : World)
    (h1 : w.heap[kl]? = some (.cells #[v] 22)) (h2 : w.heap[kb]? = some (.cells #[.string name] 9)) (hs : Sl w v 6 l.length (attrCells l)) :
    SeqCell Fence.wide n Tryz.prog 76 #[.pointer (some ⟨kl, 0, none⟩), .pointer (some ⟨kb, 0, none⟩)] (fun x : Attr => #[x.val]) kb Kp (l.length + 1) (fun xs => xs = up l (l.length + 1) name) (fun pre => pre <+: up l (l.length + 1) name) w := by
  intro lo J Jx W hW hkW hJ hJx hY h0
  have lkl : kl < w.heap.size := (Array.getElem?_eq_some_iff.1 h1).1
  have lkb : kb < w.heap.size := (Array.getElem?_eq_some_iff.1 h2).1
  have hW1 := (hW kl hkl lkl).trans h1
  have hW2 := (hW kb hkb lkb).trans h2
  have hsW : Sl W v 6 l.length (attrCells l) := hs.kept fun b hb hp hlt => hW b (hv b hb hp).1 hlt
  obtain ⟨q, cap, rfl⟩ : ∃ q cap, v = .slice q l.length cap := by obtain ⟨_, q, cap, h, _⟩ := hs; exact ⟨q, cap, h⟩
  have c1 := cell_at hW1
  refine callsIn_of_wp Tryz.func76 rfl trivial ?_ rfl
  simp only [Tryz.ntmps76, List.size_toArray, List.length_cons, List.length_nil, Nat.reduceAdd, Nat.reduceSub, Array.replicate_succ, Array.replicate_zero, List.push_toArray, List.append_toArray, List.nil_append, List.cons_append]
  gi_wp2
  gi_loopw [9] (fun i wr => ∃ (k : Nat) (pre : List Attr) (nm : ByteArray), i = .int .i64 k ∧ k ≤ l.length + 1 ∧ wr.heap[kb]? = some (.cells #[.string nm] 9) ∧ (∀ j, Kp j → j ≠ kb → j < W.heap.size → wr.heap[j]? = W.heap[j]?) ∧ W.heap.size ≤ wr.heap.size ∧ J pre wr ∧ pre ++ up l (l.length + 1 - k) nm = up l (l.length + 1) name)
    (fun i wr => l.length + 1 - (intOf i).toNat)
  case atStart =>
    exact ⟨0, [], name, rfl, by omega, hW2, fun _ _ _ _ => rfl, Nat.le_refl _, h0, rfl⟩
  case round =>
    obtain ⟨k, pre, nm, rfl, hk, hb, hkeep, hsz, hJs, hup⟩ := hrel
    by_cases hlt : k < l.length + 1
    · have hbl := (hkeep kl hkl hne (by omega)).trans hW1
      have c1 := cell_at hbl
      have c2 := cell_at hb
      have f2 := free_at hb
      have hsr : Sl wr (.slice q l.length cap) 6 l.length (attrCells l) := hsW.kept fun b hb' hp hlt' => hkeep b (hv b hb' hp).1 (hv b hb' hp).2 hlt'
      have HF := Lib.hid (find_any l _ nm wr hsr hl)
      obtain ⟨m, hm⟩ : ∃ m, l.length + 1 - k = m + 1 := ⟨l.length - k, by omega⟩
      rw [hm] at hup
      have Hup := Lib.hid hup
      have Hb := Lib.hid hb
      have Hkeep := Lib.hid hkeep
      have hlt2 : (k : Int) < (l.length : Int) + 1 := by omega
      clear hup hb hkeep hbl hsr hsW hW1 hW2 h1 h2 hs
      cases hf : find l nm with
      | none =>
        rw [hf] at HF
        have Hf := Lib.hid hf
        clear hf
        gi_wp2_with (refine ⟨trivial, ?_⟩; refine (callsIn_wide.2 HF.out).mono ?_; rintro e w' ⟨rfl, hb'⟩; dsimp only [Attr.val, Attr.none, Option.isSome])
        refine ⟨fun _ h => (by cases h), ?_⟩
        gi_wp2
        refine bodyPost_ret (results_none rfl _ _ _) rfl ?_
        refine ⟨⟨_, rfl⟩, .inl ⟨pre, ?_, hJ _ _ _ (hJ _ _ _ hJs (Bel.grow hb' _)) (World.grownBy_alloc _ _ _)⟩⟩
        have := Hup.out
        rw [up, Hf.out] at this
        simpa using this
      | some a =>
        rw [hf] at HF
        have Hpl : Hid (pre.length < l.length + 1) := Lib.hid (by
          have h1 : (pre ++ up l (m + 1) nm).length = (up l (l.length + 1) name).length := congrArg List.length Hup.out
          have h2 := up_len l (l.length + 1) name
          rw [up, hf, List.length_append] at h1
          simp only [List.length_cons] at h1
          omega)
        have Hf := Lib.hid hf
        clear hf
        gi_wp2_with (refine ⟨trivial, ?_⟩; refine (callsIn_wide.2 HF.out).mono ?_; rintro e w' ⟨rfl, hb'⟩; dsimp only [Attr.val, Attr.none, Option.isSome]; obtain ⟨fn, tmps, assign, body, hy, hR⟩ := hY pre a w' (.cells #[.string a.name, .string a.above, .int .i64 a.syn, .int .i64 a.rule, .bool a.single, .bool a.closed] 64) Hpl.out (hJ _ _ _ hJs (Bel.grow hb' _)) (by have := hb'.size; omega); dsimp only [Attr.val] at hy)
        refine hR.mono ?_
        have hup := Hup.out
        rw [up, Hf.out] at hup
        have hup : pre ++ a :: up l m a.above = up l (l.length + 1) name := hup
        have hsz' := hb'.size
        rintro e W3 (⟨rfl, hJ3, hk3, g1, hs3⟩ | ⟨rfl, hJx3⟩)
        · have q1 := cellk g1 1 _ rfl
          have g2 : W3.heap[kb]? = _ := (hk3 kb hkb (by omega)).trans (hb'.at Hb.out)
          have c2 := cell_at g2
          have f2 := free_at g2
          have G2 := Lib.hid g2
          have Hup := Lib.hid hup
          have Hk3 := Lib.hid hk3
          have Hb' := Lib.hid hb'
          clear g1 g2 hk3 hup hb'
          gi_wp2
          go_roundw
          case rel =>
            refine ⟨k + 1, pre ++ [a], a.above, by simp, by omega, set_at G2.out _, fun j h1 h2 h3 => ?_, ?_, hJ _ _ _ hJ3 (grownBy_setCell' _ _ _), ?_⟩
            · rw [Below.heap_setCell _ _ _ _ h2, Hk3.out j h1 (by omega), ← Hkeep.out j h1 h2 h3]
              exact Hb'.out.block j (by omega)
            · simp; omega
            · rw [show l.length + 1 - (k + 1) = m by omega, ← Hup.out]; simp
          case measure => simp [intOf]; omega
        · gi_wp2
          refine bodyPost_ret (results_none rfl _ _ _) rfl ?_
          exact ⟨⟨_, rfl⟩, .inr ⟨pre ++ [a], ⟨up l m a.above, by rw [← hup]; simp⟩, hJx3⟩⟩
    · have hkl' : k = l.length + 1 := by omega
      subst hkl'
      have Hup := Lib.hid hup
      clear hup
      gi_wp2
      go_end0
      refine ⟨⟨_, rfl⟩, .inl ⟨pre, ?_, hJs⟩⟩
      have := Hup.out
      rw [Nat.sub_self, up] at this
      simpa using this
end Go.Proofs.YtljeeehimcdmbaaGreatDoor
