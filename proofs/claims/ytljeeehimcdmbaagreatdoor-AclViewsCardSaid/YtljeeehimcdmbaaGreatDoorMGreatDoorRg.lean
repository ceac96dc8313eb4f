/- AclViews: parts of its proof. No condition. -/
import Derived.RangeFuncNested
import Derived.RangeFuncBound
import Derived.RangeFuncCalls
import Derived.RangeFuncLeaves
import Derived.RangeFuncBox
import Derived.Shelf.Abstract
import Derived.Shelf.RegionOpen
import Derived.WalkKit
import Derived.OwnWalkIn
import Derived.TacticsInMore
import Derived.LoopNIn
import Derived.LoopIn
import Derived.Lib.Hide
import Derived.Test.YtljeeehimcdmbaaGreatDoorMGreatDoorAt1
import Derived.Sort.QuietIn
import Derived.Test.YtljeeehimcdmbaaGreatDoorMGreatDoorDir
section
/- A law for a range over an iterator that keeps state of its own in one cell, and reads others. No condition. -/
namespace Go
open Go.RowKit
variable {F : Fence} {n : Nat} {P : Program}

/-- What is said between two rounds does not mind a write to block kb, nor new blocks. -/
def AbidesRow {β : Type} (kb : Nat) (J : β → World → Prop) : Prop :=
  ∀ s W W', J s W → W.grownBy W' (some kb) → J s W'

/-- The contract of an iterator that writes the block kb alone, and new blocks; a round that goes on keeps kb. -/
def SeqCell {α : Type} (F : Fence) (n : Nat) (P : Program) (g : Nat) (lb : Array Value) (encs : α → Array Value) (kb : Nat) (Kp : Nat → Prop) (M : Nat) (S Sp : List α → Prop) (w : World) : Prop :=
  ∀ (l : Nat) (J Jx : List α → World → Prop) (W : World), (∀ k, Kp k → k < w.heap.size → W.heap[k]? = w.heap[k]?) → w.heap.size + 2 ≤ W.heap.size → AbidesRow kb J → (∀ pre, AbidesRow kb (fun (_ : Unit) => Jx pre)) →
    (∀ pre x W1 o, pre.length < M → J pre W1 → w.heap.size + 2 ≤ W1.heap.size → YieldAt F (n - 1) P l (encs x) (W1.alloc o) fun e W' =>
      (e = .returned (.bool true) ∧ J (pre ++ [x]) W' ∧ (∀ k, Kp k → k < W1.heap.size → W'.heap[k]? = W1.heap[k]?) ∧ W'.heap[W1.heap.size]? = some o ∧ W1.heap.size < W'.heap.size) ∨ (e = .returned (.bool false) ∧ Jx (pre ++ [x]) W')) →
    J [] W →
    CallsIn F n P g (#[.func (.yield l) #[] #[]] ++ lb) W fun e W' => (∃ v, e = .returned v) ∧ ((∃ xs, S xs ∧ J xs W') ∨ (∃ pre, Sp pre ∧ Jx pre W'))

/-- New blocks alone. -/
def Grows (B : Nat) (W W' : World) : Prop := KeepsFrom B W W' ∧ W.grownBy W' none

/-- How the body of a round may be left. -/
def cellPost {α : Type} (B N : Nat) (Kp : Nat → Prop) (I : List α → World → Prop) (Ix : Code → List α → World → Prop) (xs : List α) (W : World) : Exit → Act → World → Prop
  | .normal, _, W' => KeepsFrom B W W' ∧ (∀ k, Kp k → k < N → W'.heap[k]? = W.heap[k]?) ∧ W'.heap[N]? = W.heap[N]? ∧ I xs W'
  | .ret, _, W' => KeepsFrom B W W' ∧ Ix .ret xs W'
  | .exit id, _, W' => KeepsFrom B W W' ∧ Ix (.exit id) xs W'
  | .goto t, _, W' => KeepsFrom B W W' ∧ Ix (.goto t) xs W'
  | .panic _, _, _ => False
  | .outgrown, _, _ => False

/-- The law: the assignment to the loop's left sides may lay a block; the body keeps the block N that the iterator has laid last. -/
theorem wpIn_rangeFunc_cell {α : Type} {g : Operand} {ps : Array Tmp} {assign body : Code} {Q : Exit → Act → World → Prop} {a : Act} {w : World}
    (hro : F.round = none) (h1 : 1 ≤ n) {gf : Nat} {lb : Array Value} (hg : a.eval g = .func (.func gf) #[] lb) (hFg : F.fn gf) (eg : ∀ args w, (callFunc gf args).run P w = .ok (.enter gf args) w)
    {encs : α → Array Value} {kb : Nat} (hkb : kb < w.heap.size) {Kp : Nat → Prop} (hKp : ∀ k, Kp k → k ≠ w.heap.size ∧ k ≠ w.heap.size + 1) {M : Nat} {S Sp : List α → Prop} (hseq : SeqCell F (n - 1) P gf lb encs kb Kp M S Sp w)
    (hps : ∀ x, (encs x).size = ps.size)
    (I : List α → World → Prop) (Ix : Code → List α → World → Prop) (hI : OwnFrom w.heap.size I) (hIx : ∀ c, OwnFrom w.heap.size (Ix c))
    (hK : AbidesRow kb I) (hKx : ∀ c, AbidesRow kb (Ix c)) (h0 : I [] w) (free : Nat → List α → World → Prop) (hfree : ∀ pre W o, I pre W → free W.heap.size pre (W.alloc o)) (hfr : ∀ N, OwnFrom w.heap.size (free N)) (Ax : α → Act → World → Prop) (hAx : ∀ x a', OwnFrom w.heap.size (fun (_ : Unit) W => Ax x a' W))
    (hassign : ∀ (l : Nat) (pre : List α) (x : α) (W : World) (K : Act → World → Prop), I pre W →
      (∀ a' W', Grows w.heap.size W W' → I pre W' → Ax x a' W' → K a' W') →
      assign.wpIn (F.inRound l) (n - 1 - 1) P (Exit.then K (fun _ _ _ => False)) { tmps := (ps.zip (encs x)).foldl (fun t (p, v) => t.setIfInBounds p v) a.tmps, defers := [] } W)
    (hbody : ∀ (l : Nat) (pre : List α) (x : α) (a' : Act) (N : Nat) (W : World), pre.length < M → I pre W → free N pre W → N < W.heap.size → Ax x a' W → body.wpIn (F.inRound l) (n - 1 - 1) P (cellPost w.heap.size N Kp I Ix (pre ++ [x]) W) a' W)
    (hdone : ∀ (D : Nat) (xs : List α) (W : World), w.heap.size ≤ D → S xs → I xs W → W.heap[D]? = some (.deferred (some [])) → Q .normal { a with defers := { target := .collected D, args := #[] } :: a.defers } W)
    (hstop : ∀ (D : Nat) (c : Code) (pre : List α) (W : World), w.heap.size ≤ D → Sp pre → Ix c pre W → W.heap[D]? = some (.deferred (some [])) → c.wpIn F n P Q { a with defers := { target := .collected D, args := #[] } :: a.defers } W) :
    (Code.rangeFunc g ps assign body).wpIn F n P Q a w := by
  refine wpIn_rangeFunc ?_
  intro fn hfn
  rw [hro]
  obtain ⟨rec, hrec⟩ : ∃ rec : LoopState → Option Code → Loop, rec = fun st pe => { state := st, pending := pe, fn, tmps := a.tmps, params := ps, assign, body, defers := w.heap.size } := ⟨_, rfl⟩
  obtain ⟨W1, hW1⟩ : ∃ W1, (w.alloc (.deferred (some []))).alloc (.loop (rec .ready none)) = W1 := ⟨_, rfl⟩
  have hs1 : W1.heap.size = w.heap.size + 2 := by rw [← hW1]; simp
  have hL1 : W1.heap[w.heap.size + 1]? = some (.loop (rec .ready none)) := by
    rw [← hW1]; have := World.alloc_heap_new (w.alloc (.deferred (some []))) (.loop (rec .ready none)); rwa [World.size_alloc] at this
  have hK1 : W1.heap[w.heap.size]? = some (.deferred (some [])) := by
    rw [← hW1]; exact (Below.heap_alloc _ _ _ (by simp)).trans (World.alloc_heap_new w _)
  have hI1 : I [] W1 := by rw [← hW1]; exact hI.alloc _ (hI.alloc _ h0)
  have hkb1 : ∀ k, Kp k → k < w.heap.size → W1.heap[k]? = w.heap[k]? := by
    intro k _ hk'
    rw [← hW1]; exact (Below.heap_alloc _ _ _ (by simp; omega)).trans (Below.heap_alloc _ _ _ hk')
  refine ⟨w.heap.size + 1, [{ target := .collected w.heap.size, args := #[] }], W1, { target := .fn (.func gf) lb, args := #[.func (.yield (w.heap.size + 1)) #[] #[]] }, W1, gf,
    #[.func (.yield (w.heap.size + 1)) #[] #[]] ++ lb, W1, ?_, ?_, ?_, ?_, fun _ => h1, ?_⟩
  · rw [← hW1, hrec]; exact run_enterLoop_outer _ _ _ _ _
  · simp only [resolve, hg]
    simp [go_sem]
  · intro f' hf'; simp [Target.leads] at hf'; subst hf'; exact hFg
  · simp [invoke, go_sem, eg]
  · have keep : ∀ {A B : World} {k : Nat} {o : Obj}, A.grownBy B (some kb) → w.heap.size ≤ k → A.heap[k]? = some o → B.heap[k]? = some o := fun hg' hk ho =>
      (hg'.block _ (Array.getElem?_eq_some_iff.1 ho).1 (fun e => by cases e; omega)).trans ho
    refine (hseq (w.heap.size + 1)
      (fun pre W => I pre W ∧ W.heap[w.heap.size + 1]? = some (.loop (rec .ready none)) ∧ W.heap[w.heap.size]? = some (.deferred (some [])))
      (fun pre W => ∃ c, Ix c pre W ∧ W.heap[w.heap.size + 1]? = some (.loop (rec .done (some c))) ∧ W.heap[w.heap.size]? = some (.deferred (some [])))
      W1 hkb1 (by omega)
      (fun s A B hs hg' => ⟨hK s A B hs.1 hg', keep hg' (by omega) hs.2.1, keep hg' (Nat.le_refl _) hs.2.2⟩)
      (fun pre _ A B hs hg' => by
        obtain ⟨c, hc, hl, hk⟩ := hs
        exact ⟨c, hKx c pre A B hc hg', keep hg' (by omega) hl, keep hg' (Nat.le_refl _) hk⟩)
      ?_ ⟨hI1, hL1, hK1⟩).mono ?_
    · rintro pre x V0 o hlen ⟨hi0, hl0, hk0⟩ hkV
      obtain ⟨V, hV⟩ : ∃ V, V = V0.alloc o := ⟨_, rfl⟩
      have hVs : V.heap.size = V0.heap.size + 1 := by rw [hV]; simp
      have hVo : V.heap[V0.heap.size]? = some o := by rw [hV]; exact World.alloc_heap_new V0 o
      have hVk : ∀ k, k < V0.heap.size → V.heap[k]? = V0.heap[k]? := fun k hk => by rw [hV]; exact Below.heap_alloc V0 o k hk
      have hl0' : V.heap[w.heap.size + 1]? = some (.loop (rec .ready none)) := (hVk _ (Array.getElem?_eq_some_iff.1 hl0).1).trans hl0
      have hk0' : V.heap[w.heap.size]? = some (.deferred (some [])) := (hVk _ (Array.getElem?_eq_some_iff.1 hk0).1).trans hk0
      have hiV : I pre V := by rw [hV]; exact hI.alloc _ hi0
      have hfV : free V0.heap.size pre V := by rw [hV]; exact hfree pre V0 o hi0
      rw [← hV]
      have hy := run_yield (P := P) (args := encs x) hl0' (by rw [hrec]; exact hps x)
      rw [hrec] at hy
      refine ⟨fn, _, assign, body, hy, roundIn_of_wpIn hfn (hassign _ pre x V _ hiV (fun a₁ W hgr hi hax => ?_))⟩
      obtain ⟨hkf, hgb⟩ := hgr
      have hl : W.heap[w.heap.size + 1]? = some (.loop (rec .ready none)) := hkf.same _ _ (by omega) hl0' rfl
      have hk : W.heap[w.heap.size]? = some (.deferred (some [])) := hkf.same _ _ (Nat.le_refl _) hk0' rfl
      have hlt : w.heap.size + 1 < W.heap.size := (Array.getElem?_eq_some_iff.1 hl).1
      have hsz0 := hkf.size
      have hWo : W.heap[V0.heap.size]? = some o := (hgb.block _ (by omega) (by simp)).trans hVo
      have hfW : free V0.heap.size pre W := hfr _ pre V W none hfV hgb (fun k e => by cases e)
      refine ⟨_, run_beginRound hl (by rw [hrec]), ?_⟩
      have hl2 : (W.putObj (w.heap.size + 1) (.loop { rec .ready none with state := .busy })).heap[w.heap.size + 1]? = some (.loop { rec .ready none with state := .busy }) := World.putObj_heap_same hlt
      have hk2 : (W.putObj (w.heap.size + 1) (.loop { rec .ready none with state := .busy })).heap[w.heap.size]? = some (.deferred (some [])) := (World.putObj_heap_other (by omega)).trans hk
      have hkb2 : ∀ k, Kp k → (W.putObj (w.heap.size + 1) (.loop { rec .ready none with state := .busy })).heap[k]? = W.heap[k]? := fun k hk => World.putObj_heap_other (by have := hKp k hk; omega)
      have hsz2 : (W.putObj (w.heap.size + 1) (.loop { rec .ready none with state := .busy })).heap.size = W.heap.size := by simp
      refine wpIn_mono (hbody _ pre x a₁ V0.heap.size _ hlen (hI.putObj _ hi (by omega) hl rfl) ((hfr _).putObj _ hfW (by omega) hl rfl) (by rw [hsz2]; omega) ((hAx x a₁).putObj (s := ()) _ hax (by omega) hl rfl)) ?_
      have fin : ∀ (jump : Option Code) (W3 : World), KeepsFrom w.heap.size (W.putObj (w.heap.size + 1) (.loop { rec .ready none with state := .busy })) W3 →
          (Instr.endRound (w.heap.size + 1) jump).run P W3 = .ok (.bool jump.isNone) (W3.putObj (w.heap.size + 1) (.loop (rec (if jump.isNone then .ready else .done) jump))) ∧
          W3.heap[w.heap.size + 1]? = some (.loop { rec .ready none with state := .busy }) ∧
          (W3.putObj (w.heap.size + 1) (.loop (rec (if jump.isNone then .ready else .done) jump))).heap[w.heap.size + 1]? = some (.loop (rec (if jump.isNone then .ready else .done) jump)) ∧
          (W3.putObj (w.heap.size + 1) (.loop (rec (if jump.isNone then .ready else .done) jump))).heap[w.heap.size]? = some (.deferred (some [])) := fun jump W3 hk3 => by
        have hl3 := hk3.same _ _ (by omega) hl2 rfl
        have := run_endRound (P := P) jump hl3
        rw [hrec] at this ⊢
        exact ⟨this, by rw [hrec] at hl3; exact hl3, World.putObj_heap_same (Array.getElem?_eq_some_iff.1 hl3).1, (World.putObj_heap_other (by omega)).trans (hk3.same _ _ (Nat.le_refl _) hk2 rfl)⟩
      rintro e a3 W3 hp
      cases e with
      | normal =>
        obtain ⟨hk3, hkp3, hN3, hi3⟩ := hp
        obtain ⟨hr, hl3, hl4, hk4⟩ := fin none W3 hk3
        exact ⟨_, _, hr, .inl ⟨rfl, ⟨hI.putObj _ hi3 (by omega) hl3 rfl, hl4, hk4⟩, fun k hk hlt' => (((World.putObj_heap_other (by have := hKp k hk; omega)).trans (hkp3 k hk hlt')).trans (hkb2 k hk)).trans ((hgb.block k (by omega) (by simp)).trans (hVk k hlt')),
          ((World.putObj_heap_other (by omega)).trans hN3).trans ((World.putObj_heap_other (by omega)).trans hWo), by have := hk3.size; rw [hsz2] at this; simp; omega⟩⟩
      | ret =>
        obtain ⟨hk3, hi3⟩ := hp
        obtain ⟨hr, hl3, hl4, hk4⟩ := fin (some .ret) W3 hk3
        exact ⟨_, _, hr, .inr ⟨rfl, .ret, (hIx _).putObj _ hi3 (by omega) hl3 rfl, hl4, hk4⟩⟩
      | exit id =>
        obtain ⟨hk3, hi3⟩ := hp
        obtain ⟨hr, hl3, hl4, hk4⟩ := fin (some (.exit id)) W3 hk3
        exact ⟨_, _, hr, .inr ⟨rfl, .exit id, (hIx _).putObj _ hi3 (by omega) hl3 rfl, hl4, hk4⟩⟩
      | goto t =>
        obtain ⟨hk3, hi3⟩ := hp
        obtain ⟨hr, hl3, hl4, hk4⟩ := fin (some (.goto t)) W3 hk3
        exact ⟨_, _, hr, .inr ⟨rfl, .goto t, (hIx _).putObj _ hi3 (by omega) hl3 rfl, hl4, hk4⟩⟩
      | panic ch => exact hp.elim
      | outgrown => exact hp.elim
    · rintro e W2 ⟨⟨v, rfl⟩, (⟨xs, hS, hi, hl, hk⟩ | ⟨pre, hSp, c, hi, hl, hk⟩)⟩
      · exact ⟨none, _, by have := run_endLoop (P := P) hl (by rw [hrec]; simp); rw [hrec] at this; exact this, hdone _ xs _ (Nat.le_refl _) hS (hI.putObj _ hi (by omega) hl rfl) ((World.putObj_heap_other (by omega)).trans hk)⟩
      · exact ⟨some c, _, by have := run_endLoop (P := P) hl (by rw [hrec]; simp); rw [hrec] at this; exact this, hstop _ c pre _ (Nat.le_refl _) hSp ((hIx c).putObj _ hi (by omega) hl rfl) ((World.putObj_heap_other (by omega)).trans hk)⟩

end Go
end

section
/- The walks of attrs.up and of the iterator that it makes. No condition. -/
namespace Go.Proofs.YtljeeehimcdmbaaGreatDoor
open Go.RowKit Go.Wd Go.Dir Go.Shelf
attribute [local go_sem] Oper.semAt_some

theorem up_any (q : Option Addr) (m cap : Nat) (name : ByteArray) (w : World) : Calls Tryz.prog 58 #[.slice q m cap, .string name] w fun e w' =>
    e = .returned (.func (.func 76) #[] #[.pointer (some ⟨w.heap.size, 0, none⟩), .pointer (some ⟨w.heap.size + 1, 0, none⟩)]) ∧ w' = (w.alloc (.cells #[.slice q m cap] 22)).alloc (.cells #[.string name] 9) := by
  go_enter Tryz.func58, Tryz.ntmps58
  go_wp2
  go_ret
  exact ⟨rfl, rfl⟩

set_option maxRecDepth 100000 in
set_option maxHeartbeats 1000000 in
theorem up_seq (n kl kb : Nat) (hn : 1 ≤ n) (Kp : Nat → Prop) (hkl : Kp kl) (hkb : Kp kb) (hne : kl ≠ kb) (l : List Attr) (v : Value) (hv : ∀ b, inBlock v b → 0 < l.length * 6 → Kp b ∧ b ≠ kb) (hl : l.length < 1000000) (name : ByteArray) (w : World)
    (h1 : w.heap[kl]? = some (.cells #[v] 22)) (h2 : w.heap[kb]? = some (.cells #[.string name] 9)) (hs : Sl w v 6 l.length (attrCells l)) :
    SeqCell Fence.wide n Tryz.prog 76 #[.pointer (some ⟨kl, 0, none⟩), .pointer (some ⟨kb, 0, none⟩)] (fun x : Attr => #[x.val]) kb Kp (l.length + 1) (fun xs => xs = up l (l.length + 1) name) (fun pre => pre <+: up l (l.length + 1) name) w := by
  intro lo J Jx W hW hkW hJ hJx hY h0
  have lkl : kl < w.heap.size := (Array.getElem?_eq_some_iff.1 h1).1
  have lkb : kb < w.heap.size := (Array.getElem?_eq_some_iff.1 h2).1
  have hW1 := (hW kl hkl lkl).trans h1
  have hW2 := (hW kb hkb lkb).trans h2
  have hsW : Sl W v 6 l.length (attrCells l) := hs.kept fun b hb hp hlt => hW b (hv b hb hp).1 hlt
  obtain ⟨q, cap, rfl⟩ : ∃ q cap, v = .slice q l.length cap := by obtain ⟨_, q, cap, h, _⟩ := hs; exact ⟨q, cap, h⟩
  have c1 := cell_at hW1
  refine callsIn_of_wp Tryz.func76 rfl trivial ?_ rfl
  simp only [Tryz.ntmps76, List.size_toArray, List.length_cons, List.length_nil, Nat.reduceAdd, Nat.reduceSub, Array.replicate_succ, Array.replicate_zero, List.push_toArray, List.append_toArray, List.nil_append, List.cons_append]
  gi_wp2
  gi_loopw [9] (fun i wr => ∃ (k : Nat) (pre : List Attr) (nm : ByteArray), i = .int .i64 k ∧ k ≤ l.length + 1 ∧ wr.heap[kb]? = some (.cells #[.string nm] 9) ∧ (∀ j, Kp j → j ≠ kb → j < W.heap.size → wr.heap[j]? = W.heap[j]?) ∧ W.heap.size ≤ wr.heap.size ∧ J pre wr ∧ pre ++ up l (l.length + 1 - k) nm = up l (l.length + 1) name)
    (fun i wr => l.length + 1 - (intOf i).toNat)
  case atStart =>
    exact ⟨0, [], name, rfl, by omega, hW2, fun _ _ _ _ => rfl, Nat.le_refl _, h0, rfl⟩
  case round =>
    obtain ⟨k, pre, nm, rfl, hk, hb, hkeep, hsz, hJs, hup⟩ := hrel
    by_cases hlt : k < l.length + 1
    · have hbl := (hkeep kl hkl hne (by omega)).trans hW1
      have c1 := cell_at hbl
      have c2 := cell_at hb
      have f2 := free_at hb
      have hsr : Sl wr (.slice q l.length cap) 6 l.length (attrCells l) := hsW.kept fun b hb' hp hlt' => hkeep b (hv b hb' hp).1 (hv b hb' hp).2 hlt'
      have HF := Lib.hid (find_any l _ nm wr hsr hl)
      obtain ⟨m, hm⟩ : ∃ m, l.length + 1 - k = m + 1 := ⟨l.length - k, by omega⟩
      rw [hm] at hup
      have Hup := Lib.hid hup
      have Hb := Lib.hid hb
      have Hkeep := Lib.hid hkeep
      have hlt2 : (k : Int) < (l.length : Int) + 1 := by omega
      clear hup hb hkeep hbl hsr hsW hW1 hW2 h1 h2 hs
      cases hf : find l nm with
      | none =>
        rw [hf] at HF
        have Hf := Lib.hid hf
        clear hf
        gi_wp2_with (refine ⟨trivial, ?_⟩; refine (callsIn_wide.2 HF.out).mono ?_; rintro e w' ⟨rfl, hb'⟩; dsimp only [Attr.val, Attr.none, Option.isSome])
        refine ⟨fun _ h => (by cases h), ?_⟩
        gi_wp2
        refine bodyPost_ret (results_none rfl _ _ _) rfl ?_
        refine ⟨⟨_, rfl⟩, .inl ⟨pre, ?_, hJ _ _ _ (hJ _ _ _ hJs (Bel.grow hb' _)) (World.grownBy_alloc _ _ _)⟩⟩
        have := Hup.out
        rw [up, Hf.out] at this
        simpa using this
      | some a =>
        rw [hf] at HF
        have Hpl : Hid (pre.length < l.length + 1) := Lib.hid (by
          have h1 : (pre ++ up l (m + 1) nm).length = (up l (l.length + 1) name).length := congrArg List.length Hup.out
          have h2 := up_len l (l.length + 1) name
          rw [up, hf, List.length_append] at h1
          simp only [List.length_cons] at h1
          omega)
        have Hf := Lib.hid hf
        clear hf
        gi_wp2_with (refine ⟨trivial, ?_⟩; refine (callsIn_wide.2 HF.out).mono ?_; rintro e w' ⟨rfl, hb'⟩; dsimp only [Attr.val, Attr.none, Option.isSome]; obtain ⟨fn, tmps, assign, body, hy, hR⟩ := hY pre a w' (.cells #[.string a.name, .string a.above, .int .i64 a.syn, .int .i64 a.rule, .bool a.single, .bool a.closed] 64) Hpl.out (hJ _ _ _ hJs (Bel.grow hb' _)) (by have := hb'.size; omega); dsimp only [Attr.val] at hy)
        refine hR.mono ?_
        have hup := Hup.out
        rw [up, Hf.out] at hup
        have hup : pre ++ a :: up l m a.above = up l (l.length + 1) name := hup
        have hsz' := hb'.size
        rintro e W3 (⟨rfl, hJ3, hk3, g1, hs3⟩ | ⟨rfl, hJx3⟩)
        · have q1 := cellk g1 1 _ rfl
          have g2 : W3.heap[kb]? = _ := (hk3 kb hkb (by omega)).trans (hb'.at Hb.out)
          have c2 := cell_at g2
          have f2 := free_at g2
          have G2 := Lib.hid g2
          have Hup := Lib.hid hup
          have Hk3 := Lib.hid hk3
          have Hb' := Lib.hid hb'
          clear g1 g2 hk3 hup hb'
          gi_wp2
          go_roundw
          case rel =>
            refine ⟨k + 1, pre ++ [a], a.above, by simp, by omega, set_at G2.out _, fun j h1 h2 h3 => ?_, ?_, hJ _ _ _ hJ3 (grownBy_setCell' _ _ _), ?_⟩
            · rw [Below.heap_setCell _ _ _ _ h2, Hk3.out j h1 (by omega), ← Hkeep.out j h1 h2 h3]
              exact Hb'.out.block j (by omega)
            · simp; omega
            · rw [show l.length + 1 - (k + 1) = m by omega, ← Hup.out]; simp
          case measure => simp [intOf]; omega
        · gi_wp2
          refine bodyPost_ret (results_none rfl _ _ _) rfl ?_
          exact ⟨⟨_, rfl⟩, .inr ⟨pre ++ [a], ⟨up l m a.above, by rw [← hup]; simp⟩, hJx3⟩⟩
    · have hkl' : k = l.length + 1 := by omega
      subst hkl'
      have Hup := Lib.hid hup
      clear hup
      gi_wp2
      go_end0
      refine ⟨⟨_, rfl⟩, .inl ⟨pre, ?_, hJs⟩⟩
      have := Hup.out
      rw [Nat.sub_self, up] at this
      simpa using this
end Go.Proofs.YtljeeehimcdmbaaGreatDoor
end

section
/- The walk of attrs.Check. No condition. -/
namespace Go.Proofs.YtljeeehimcdmbaaGreatDoor
open Go.RowKit Go.Wd Go.Dir Go.Shelf
attribute [local go_sem] Oper.semAt_some

/-- What a range over a function leaves among an activation's deferred calls. -/
def mark (D : Nat) : Deferred := { target := .collected D, args := #[] }
/-- Marks that have not been taken. -/
def Marks (B : Nat) (Ds : List Nat) (w : World) : Prop := Ds.Nodup ∧ ∀ D ∈ Ds, B ≤ D ∧ w.heap[D]? = some (.deferred (some []))

theorem Marks.grown {B : Nat} {Ds : List Nat} {w w' : World} (h : Marks B Ds w) (hk : ∀ D, D ∈ Ds → D < w.heap.size → w'.heap[D]? = w.heap[D]?) : Marks B Ds w' :=
  ⟨h.1, fun D hD => ⟨(h.2 D hD).1, (hk D hD (Array.getElem?_eq_some_iff.1 (h.2 D hD).2).1).trans (h.2 D hD).2⟩⟩
theorem Marks.cons {B : Nat} {Ds : List Nat} {w w' : World} {D : Nat} (h : Marks B Ds w) (hD : w.heap.size ≤ D) (hB : B ≤ D) (hk : ∀ D', D' ∈ Ds → D' < w.heap.size → w'.heap[D']? = w.heap[D']?)
    (hn : w'.heap[D]? = some (.deferred (some []))) : Marks B (D :: Ds) w' := by
  refine ⟨List.nodup_cons.2 ⟨fun hm => ?_, h.1⟩, fun D' hD' => ?_⟩
  · have := (Array.getElem?_eq_some_iff.1 (h.2 D hm).2).1
    omega
  · rcases List.mem_cons.1 hD' with rfl | hm
    · exact ⟨hB, hn⟩
    · exact (h.grown hk).2 D' hm

theorem leaves_marks {F : Fence} {n : Nat} {P : Program} {fn : Func} {tmps : Array Value} {R : Ending → World → Prop} (B : Nat) : ∀ (Ds : List Nat) (W : World), Marks B Ds W → B ≤ W.heap.size →
    (∀ W', Below B W W' → LeavesIn F n P fn tmps R [] .returning W') → LeavesInM F n P fn tmps R (Ds.map mark) .returning W
  | [], W, _, _, h => h W (Below.refl _ _)
  | D :: Ds, W, hm, hB, h => by
    have hD := hm.2 D (by simp)
    have hn := List.nodup_cons.1 hm.1
    have hb : Below B W (W.putObj D (.deferred none)) := (Below.refl B W).grown (grownBy_putObj' _ D (.deferred none)) hB (fun k e => by cases e; exact hD.1)
    refine ⟨by simp, .inl ⟨D, W.putObj D (.deferred none), rfl, run_takeDeferred hD.2, ?_⟩⟩
    refine leaves_marks B Ds _ ⟨hn.2, fun D' hD' => ⟨(hm.2 D' (by simp [hD'])).1, ?_⟩⟩ (Nat.le_trans hB hb.size) (fun W' hW' => h W' (hb.trans hW'))
    exact (World.putObj_heap_other (fun e => hn.1 (by rw [← e]; exact hD'))).trans (hm.2 D' (by simp [hD'])).2

theorem Marks.bel {B : Nat} {Ds : List Nat} {w w' : World} (h : Marks B Ds w) (hb : Bel w w') : Marks B Ds w' := h.grown fun D _ hlt => hb.block D hlt
theorem check_bad (l : List Attr) (a : Attr) (h : a ∈ l) (hs : sane l a = false ∨ l.length < (up l (l.length + 1) a.name).length) : checkA l = false := by
  cases hc : checkA l with
  | false => rfl
  | true =>
    unfold checkA at hc
    simp only [Bool.and_eq_true, List.all_eq_true, decide_eq_true_eq] at hc
    have := hc.2 a h
    rcases hs with h1 | h1
    · rw [h1] at this; cases this.1
    · omega
theorem wrap_step (n : Nat) : wrap64 (wrap64 (n : Int) + 1) = wrap64 ((n : Int) + 1) := by unfold wrap64; omega
theorem wrap_small (n : Nat) (h : n ≤ 1000001) : wrap64 (n : Int) = n := by unfold wrap64; omega
theorem check_fall (l : List Attr) (j : Nat) (hj : j + 1 < l.length) (h : Op.bytesLess (l.getD j Attr.none).name.toList (l.getD (j + 1) Attr.none).name.toList = false) : checkA l = false := by
  have : rising (l.map Attr.name) = false := by
    cases hc : rising (l.map Attr.name) with
    | false => rfl
    | true =>
      have := (rises_iff l).1 hc j (j + 1) (by omega) hj
      rw [h] at this; cases this
  unfold checkA
  rw [this]; simp

def checkN (l : List Attr) : Int := if checkA l then 0 else 190

set_option maxRecDepth 100000 in
set_option maxHeartbeats 2000000 in
theorem check_any (l : List Attr) (v : Value) (w : World) (hs : Sl w v 6 l.length (attrCells l)) (hl : l.length < 1000000) (ha : ∀ a ∈ l, shortA a) :
    Calls Tryz.prog 43 #[v] w fun e W' => e = .returned (.int .i64 (checkN l)) ∧ Bel w W' := by
  obtain ⟨r, hr⟩ : ∃ r, r = checkN l := ⟨_, rfl⟩
  rw [← hr]
  obtain ⟨q, cap, rfl⟩ : ∃ q cap, v = .slice q l.length cap := by obtain ⟨_, q, cap, h, _⟩ := hs; exact ⟨q, cap, h⟩
  refine (callsIn_wide (n := 6)).1 ?_
  refine callsIn_of_wp_marks Tryz.func43 rfl trivial ?_ rfl
  simp only [Tryz.ntmps43, List.size_toArray, List.length_cons, List.length_nil, Nat.reduceAdd, Nat.reduceSub, Array.replicate_succ, Array.replicate_zero, List.push_toArray, List.append_toArray, List.nil_append, List.cons_append]
  by_cases h24 : 24 < l.length
  · have : checkA l = false := by unfold checkA; rw [decide_eq_false (by omega)]; rfl
    unfold checkN at hr
    rw [this] at hr
    subst hr
    gi_wp2
    exact ⟨_, results_tmp rfl _ _ _, rfl, Bel.refl _⟩
  gi_wp2
  gi_loopw [3] (fun i wr => ∃ k : Nat, i = .int .i64 k ∧ 1 ≤ k ∧ (k ≤ l.length ∨ k = 1) ∧ (∀ j, j + 1 < k → Op.bytesLess (l.getD j Attr.none).name.toList (l.getD (j + 1) Attr.none).name.toList = true) ∧ Bel w wr)
    (fun i wr => l.length - (intOf i).toNat)
  case atStart => exact ⟨1, rfl, by omega, .inr rfl, fun j hj => by omega, Bel.refl _⟩
  case round =>
    obtain ⟨k, rfl, h1, h2, h3, hb⟩ := hrel
    by_cases hlt : k < l.length
    · obtain ⟨j, rfl⟩ : ∃ j, k = j + 1 := ⟨k - 1, by omega⟩
      obtain ⟨b, off, cap', e, c0, -⟩ := attr_at (hs.bel hb) j (by omega)
      cases e
      obtain ⟨b', off', cap', e, d0, -⟩ := attr_at (hs.bel hb) (j + 1) hlt
      cases e
      have H3 := Lib.hid h3
      have Hb := Lib.hid hb
      clear h3 hb
      cases hless : Op.bytesLess (l.getD j Attr.none).name.toList (l.getD (j + 1) Attr.none).name.toList with
      | true =>
        have Hl := Lib.hid hless
        have Hg := Lib.hid hless
        clear hless
        generalize l.getD j Attr.none = A at c0 Hl
        generalize l.getD (j + 1) Attr.none = A' at d0 Hl
        have hless := Hl.out
        gi_wp2
        gi_quiet (fail)
        have hb2 := Hb.out.drewN nq
        generalize wr.drewN nq = w2 at *
        have Hb2 := Lib.hid hb2
        clear hb2
        gi_wp2
        go_roundw
        case rel =>
          refine ⟨j + 1 + 1, by simp, by omega, .inl (by omega), fun i hi => ?_, Hb2.out⟩
          by_cases hij : i = j
          · subst hij; exact Hg.out
          · exact H3.out i (by omega)
        case measure => simp [intOf]; omega
      | false =>
        have hf := check_fall l j hlt hless
        have hr0 : r = 190 := by rw [hr]; unfold checkN; rw [hf]; rfl
        subst hr0
        clear hf hr
        generalize l.getD j Attr.none = A at *
        generalize l.getD (j + 1) Attr.none = A' at *
        gi_wp2
        gi_quiet (fail)
        have hb2 := Hb.out.drewN nq
        generalize wr.drewN nq = w2 at *
        have Hb2 := Lib.hid hb2
        clear hb2
        gi_wp2
        exact ⟨_, results_tmp rfl _ _ _, rfl, Hb2.out⟩
    · have H3 := Lib.hid h3
      have Hb := Lib.hid hb
      clear h3 hb
      gi_wp2
      refine wpIn_loop (fun (a : Act) (wr : World) => ∃ (k : Nat) (Ds : List Nat) (u1 u2 u3 u4 u5 u6 u7 u8 u9 u10 u11 u12 u13 u14 u15 u16 u17 u18 u19 u20 u21 u22 u23 u24 u25 u26 u27 u31 u32 u33 u34 u35 u36 u37 u38 u39 u40 u41 u42 u43 u44 u45 u46 u47 u48 u49 : Value), a = { tmps := #[.slice q l.length cap, u1, u2, u3, u4, u5, u6, u7, u8, u9, u10, u11, u12, u13, u14, u15, u16, u17, u18, u19, u20, u21, u22, u23, u24, u25, u26, u27, .slice q l.length cap, .int .i64 l.length, .int .i64 k, u31, u32, u33, u34, u35, u36, u37, u38, u39, u40, u41, u42, u43, u44, u45, u46, u47, u48, u49], defers := Ds.map mark } ∧ k ≤ l.length ∧
        (∀ a ∈ l.take k, sane l a = true ∧ (up l (l.length + 1) a.name).length ≤ l.length) ∧ Bel w wr ∧ Marks w.heap.size Ds wr)
        (fun a _ => l.length - (intOf (a.tmps.getD 30 undef)).toNat) ⟨0, [], _, _, _, _, _, _, _, _, _, _, _, _, _, _, _, _, _, _, _, _, _, _, _, _, _, _, _, _, _, _, _, _, _, _, _, _, _, _, _, _, _, _, _, _, _, _, rfl, by omega, by simp, Hb.out, List.nodup_nil, by simp⟩ ?_
      rintro a wr ⟨k, Ds, u1, u2, u3, u4, u5, u6, u7, u8, u9, u10, u11, u12, u13, u14, u15, u16, u17, u18, u19, u20, u21, u22, u23, u24, u25, u26, u27, u31, u32, u33, u34, u35, u36, u37, u38, u39, u40, u41, u42, u43, u44, u45, u46, u47, u48, u49, rfl, hk, hall, hb, hm⟩
      by_cases hlt : k < l.length
      · obtain ⟨b, off, cap', e, c0, c1, c2, c3, c4, c5⟩ := attr_at (hs.bel hb) k hlt
        cases e
        have hA : l.getD k Attr.none ∈ l := by rw [List.getD_eq_getElem?_getD, List.getElem?_eq_getElem hlt]; exact List.getElem_mem _
        have hsA := ha _ hA
        have HS := fun w' (h : Bel w w') => Lib.hid (sane_any l _ (l.getD k Attr.none) w' (hs.bel h) hl hsA)
        have HU := fun nm w' => Lib.hid (up_any (some ⟨b, off, none⟩) l.length cap nm w')
        have Hhs := Lib.hid hs
        have Hall := Lib.hid hall
        have Hb2 := Lib.hid hb
        have Hm := Lib.hid hm
        have Hha := Lib.hid ha
        clear hall hb hm hs ha
        generalize hAA : l.getD k Attr.none = A at *
        have HAA := Lib.hid hAA
        clear hAA
        unfold Attr.val at HS
        cases hsn : sane l A with
        | false =>
          rw [hsn] at HS
          gi_wp2_with (refine ⟨trivial, ?_⟩; refine (callsIn_wide.2 (HS _ (Hb2.out.alloc _)).out).mono ?_; rintro e w' ⟨rfl, hb'⟩)
          have hr0 : r = 190 := by rw [hr]; unfold checkN; rw [check_bad l A hA (.inl hsn)]; rfl
          subst hr0
          have hB := (Bel.refl wr).alloc (.cells #[.string A.name, .string A.above, .int .i64 A.syn, .int .i64 A.rule, .bool A.single, .bool A.closed] 64) |>.trans hb'
          exact leaves_marks w.heap.size Ds _ (Hm.out.bel hB) (Nat.le_trans Hb2.out.size hB.size) (fun W' hW' => ⟨_, results_tmp rfl _ _ _, rfl, Below.trans (Hb2.out.trans hB) hW'⟩)
        | true =>
          rw [hsn] at HS
          gi_wp2_with (refine ⟨trivial, ?_⟩; refine (callsIn_wide.2 (HS _ (Hb2.out.alloc _)).out).mono ?_; rintro e w' ⟨rfl, hb'⟩; have hob := hb'.at (new_at wr _); have x0 := fun o => cellk (old_at hob o) 0 _ rfl)
          have hB := (Bel.refl wr).alloc (.cells #[.string A.name, .string A.above, .int .i64 A.syn, .int .i64 A.rule, .bool A.single, .bool A.closed] 64) |>.trans hb'
          have HB := Lib.hid hB
          clear hB hob x0 hb'
          gi_wp2_with (refine ⟨trivial, ?_⟩; refine (callsIn_wide.2 (HU _ _).out).mono ?_; rintro e w2 ⟨rfl, rfl⟩)
          obtain ⟨W0, hW0⟩ : ∃ W0, W0 = ((w'.alloc (.cells #[.int .i64 0] 3)).alloc (.cells #[.slice (some ⟨b, off, none⟩) l.length cap] 22)).alloc (.cells #[.string A.name] 9) := ⟨_, rfl⟩
          obtain ⟨B, hBq⟩ : ∃ B, B = w'.heap.size := ⟨_, rfl⟩
          have hsz : W0.heap.size = B + 3 := by rw [hW0, hBq]; simp
          have b0 : W0.heap[B]? = some (.cells #[.int .i64 0] 3) := by rw [hW0, hBq]; exact old_at (old_at (new_at w' _) _) _
          have b1 : W0.heap[B + 1]? = some (.cells #[.slice (some ⟨b, off, none⟩) l.length cap] 22) := by
            have := new_at (w'.alloc (.cells #[.int .i64 0] 3)) (.cells #[.slice (some ⟨b, off, none⟩) l.length cap] 22)
            rw [World.size_alloc] at this
            rw [hW0, hBq]; exact old_at this _
          have b2 : W0.heap[B + 2]? = some (.cells #[.string A.name] 9) := by
            have := new_at ((w'.alloc (.cells #[.int .i64 0] 3)).alloc (.cells #[.slice (some ⟨b, off, none⟩) l.length cap] 22)) (.cells #[.string A.name] 9)
            rw [World.size_alloc, World.size_alloc] at this
            rw [hW0, hBq]; exact this
          have hbel : Bel w' W0 := by rw [hW0]; exact (((Bel.refl w').alloc _).alloc _).alloc _
          have hs0 : Sl W0 (.slice (some ⟨b, off, none⟩) l.length cap) 6 l.length (attrCells l) := Hhs.out.bel ((Hb2.out.trans HB.out).trans hbel)
          have hbB : b < B := by rw [hBq]; have h := World.block_lt_of_cell? wr ⟨b, off + k * 6, none⟩ c0; have := HB.out.size; exact Nat.lt_of_lt_of_le h this
          simp only [← hW0, ← hBq]
          have HBq := Lib.hid hBq
          have Hmm := Lib.hid (Hm.out.bel HB.out)
          have Hbw := Lib.hid (Hb2.out.trans HB.out)
          clear hW0 hBq
          refine wpIn_rangeFunc_cell rfl (by omega) (gf := 76) (lb := #[.pointer (some ⟨B + 1, 0, none⟩), .pointer (some ⟨B + 1 + 1, 0, none⟩)]) rfl trivial (enters_of Tryz.func76 (by kernel_rfl) rfl)
            (kb := B + 2) (by omega) (Kp := fun j => j ≠ B ∧ j ≠ B + 3 ∧ j ≠ B + 4) (fun j hj => by rw [hsz]; exact ⟨hj.2.1, hj.2.2⟩)
            (up_seq 5 (B + 1) (B + 2) (by omega) _ ⟨by omega, by omega, by omega⟩ ⟨by omega, by omega, by omega⟩ (by omega) l _ (fun j hj _ => by
              obtain ⟨_, _, _, he⟩ := hj
              cases he
              exact ⟨⟨by omega, by omega, by omega⟩, by omega⟩) hl A.name W0 b1 b2 hs0) (fun _ => rfl)
            (fun pre W => W.heap[B]? = some (.cells #[.int .i64 (wrap64 pre.length)] 3) ∧ Bel w' W)
            (fun _ _ _ => False)
            ?oI ?oX ?kI ?kX ⟨by simpa [wrap64] using b0, hbel⟩
            (fun N _ _ => N ≠ B) (fun pre W o h => Nat.ne_of_gt (Array.getElem?_eq_some_iff.1 h.1).1) (fun N s A B' row h _ _ => h)
            (fun x a' _ => a' = { tmps := #[.slice (some ⟨b, off, none⟩) l.length cap, u1, u2, u3, u4, .pointer (some ⟨wr.heap.size, 0, none⟩), .pointer (some ⟨B, 0, none⟩), u7, u8, u9, u10, u11, u12, u13, u14, u15, u16, u17, u18, u19, u20, u21, u22, u23, u24, u25, u26, u27, .slice (some ⟨b, off, none⟩) l.length cap, .int .i64 l.length, .int .i64 k, .bool true, .pointer (some ⟨b, off + k * 6, none⟩), .agg #[.string A.name, .string A.above, .int .i64 A.syn, .int .i64 A.rule, .bool A.single, .bool A.closed], .slice (some ⟨b, off, none⟩) l.length cap, .agg #[.string A.name, .string A.above, .int .i64 A.syn, .int .i64 A.rule, .bool A.single, .bool A.closed], .bool true, .bool false, .slice (some ⟨b, off, none⟩) l.length cap, .pointer (some ⟨wr.heap.size, 0, none⟩), .string A.name, .func (.func 76) #[] #[.pointer (some ⟨B + 1, 0, none⟩), .pointer (some ⟨B + 1 + 1, 0, none⟩)], x.val, u43, u44, u45, u46, u47, u48, u49], defers := [] }) (fun x a' s A B' row h _ _ => h) ?assign ?body ?done ?stop
          case oI =>
            rintro pre X Y row ⟨h0, h1⟩ hg hr
            refine ⟨(hg.block B (Array.getElem?_eq_some_iff.1 h0).1 (fun e => ?_)).trans h0, h1.grown hg (fun j e => by have := (hr j e).1; rw [hsz] at this; rw [← HBq.out]; omega)⟩
            have := (hr _ e.symm).1; omega
          case oX => rintro c pre X Y row h; exact h.elim
          case kI =>
            rintro pre X Y ⟨h0, h1⟩ hg
            exact ⟨(hg.block B (Array.getElem?_eq_some_iff.1 h0).1 (by simp)).trans h0, h1.grown hg (fun j e => by cases e; rw [← HBq.out]; omega)⟩
          case kX => intro c pre X Y h; exact h.elim
          case assign =>
            intro lo pre x W K hi hK
            gi_wp2
            exact hK _ _ ⟨(KeepsOthers.refl _).from _, rfl, rfl, rfl, Nat.le_refl _, fun _ _ _ => rfl⟩ hi rfl
          case body =>
            rintro lo pre x a' N W - ⟨h0, h1⟩ hN hNlt rfl
            have c0 := cell_at h0
            have f0 := free_at h0
            have H0 := Lib.hid h0
            have H1 := Lib.hid h1
            clear h0 h1
            gi_wp2
            refine ⟨(KeepsOthers.setCell _ _ _).from _, fun j hj _ => Below.heap_setCell _ _ _ _ hj.1, Below.heap_setCell _ _ _ _ hN, ?_, H1.out.set (p := ⟨B, 0, none⟩) (Nat.le_of_eq HBq.out.symm) _⟩
            rw [set_at H0.out]
            simp [wrap_step]
          case done =>
            rintro D ys W hD hS ⟨h0, h1⟩ hK
            have hlen : ys.length ≤ l.length + 1 := by rw [hS]; exact up_len _ _ _
            have hwr : wrap64 (ys.length : Int) = ys.length := wrap_small _ (by omega)
            rw [hwr] at h0
            have c0 := cell_at h0
            have hm2 : Marks w.heap.size (D :: Ds) W := Marks.cons (w := w') Hmm.out (by rw [← HBq.out]; omega) (by have := Hbw.out.size; rw [← HBq.out] at this; omega) (fun D' _ hlt' => h1.block D' hlt') hK
            have HS := Lib.hid hS
            have H1 := Lib.hid (Hbw.out.trans h1)
            have Hm2 := Lib.hid hm2
            clear h0 h1 hS hm2
            by_cases hbig : l.length < ys.length
            · have hr0 : r = 190 := by rw [hr]; unfold checkN; rw [check_bad l A hA (.inr (by rw [← HS.out]; exact hbig))]; rfl
              subst hr0
              gi_wp2
              exact leaves_marks w.heap.size (D :: Ds) _ Hm2.out H1.out.size (fun W' hW' => ⟨_, results_tmp rfl _ _ _, rfl, Below.trans H1.out hW'⟩)
            · gi_wp2
              refine ⟨⟨k + 1, D :: Ds, _, _, _, _, _, _, _, _, _, _, _, _, _, _, _, _, _, _, _, _, _, _, _, _, _, _, _, _, _, _, _, _, _, _, _, _, _, _, _, _, _, _, _, _, _, _, rfl, by omega, fun a' ha' => ?_, H1.out, Hm2.out⟩, ?_⟩
              · rw [List.take_succ_eq_append_getElem hlt] at ha'
                rcases List.mem_append.1 ha' with h | h
                · exact Hall.out a' h
                · have he : a' = A := by
                    rw [← HAA.out, List.getD_eq_getElem?_getD, List.getElem?_eq_getElem hlt]
                    simpa using h
                  subst he
                  exact ⟨hsn, by rw [← HS.out]; exact Nat.le_of_not_lt hbig⟩
              · simp [intOf]; omega
          case stop => rintro D c pre W hD hS h hK; exact h.elim
      · have hkl : k = l.length := by omega
        subst hkl
        have hc : checkA l = true := by
          unfold checkA
          simp only [Bool.and_eq_true, List.all_eq_true, decide_eq_true_eq]
          refine ⟨⟨by omega, (rises_iff l).2 (rises_of l fun i hi => H3.out i (by omega))⟩, fun a ha' => ?_⟩
          exact hall a (by rw [List.take_length]; exact ha')
        have hr0 : r = 0 := by rw [hr]; unfold checkN; rw [hc]; rfl
        subst hr0
        have Hb2 := Lib.hid hb
        have Hm := Lib.hid hm
        clear hall hb hm hs ha hc hr
        gi_wp2
        exact leaves_marks w.heap.size Ds _ Hm.out Hb2.out.size (fun W' hW' => ⟨_, results_tmp rfl _ _ _, rfl, Below.trans Hb2.out hW'⟩)
end Go.Proofs.YtljeeehimcdmbaaGreatDoor
end

section
/- The walk of attrs.Find. No condition. -/
namespace Go.Proofs.YtljeeehimcdmbaaGreatDoor
open Go.RowKit Go.Wd Go.Dir

/-- What attrs.Find tells. -/
def findC (l : List Attr) (name : ByteArray) : Option Attr := if checkA l then find l name else none

theorem findP_core (q : Option Addr) (m cap : Nat) (name : ByteArray) (w : World) (A : Attr) (ok : Bool) (HC : ∀ w', Bel w w' → Hid (Calls Tryz.prog 43 #[.slice q m cap] w' fun e W' => e = .returned (.int .i64 0) ∧ Bel w' W'))
    (HF : ∀ w', Bel w w' → Hid (Calls Tryz.prog 65 #[.slice q m cap, .string name] w' fun e W' => e = .returned (.tuple #[A.val, .bool ok]) ∧ Bel w' W')) :
    Calls Tryz.prog 48 #[.slice q m cap, .string name] w fun e w' => e = .returned (.tuple #[A.val, .bool ok]) ∧ Bel w w' := by
  unfold Attr.val at *
  go_enter Tryz.func48, Tryz.ntmps48
  go_wp2_with fail
  refine (HC _ ((Bel.refl _).alloc _)).out.mono ?_
  rintro e w' ⟨rfl, hb'⟩
  go_wp2_with fail
  refine (HF _ (((Bel.refl _).alloc _).trans hb')).out.mono ?_
  rintro e w2 ⟨rfl, hb2⟩
  have Hob := Lib.hid (hb2.at (hb'.at (new_at w _)))
  have z0 := cellk Hob.out 0 _ rfl
  have y0 := freek Hob.out 0
  have z1 := cellk Hob.out 1 _ rfl
  have y1 := freek Hob.out 1
  have z2 := cellk Hob.out 2 _ rfl
  have y2 := freek Hob.out 2
  have z3 := cellk Hob.out 3 _ rfl
  have y3 := freek Hob.out 3
  have z4 := cellk Hob.out 4 _ rfl
  have y4 := freek Hob.out 4
  have z5 := cellk Hob.out 5 _ rfl
  have y5 := freek Hob.out 5
  have Hb := Lib.hid ((((Bel.refl _).alloc _).trans hb').trans hb2)
  clear hb' hb2
  go_wp2
  have hB := Hb.out.set6 (Nat.le_refl _) (.string A.name) (.string A.above) (.int .i64 A.syn) (.int .i64 A.rule) (.bool A.single) (.bool A.closed)
  have hR := at_set6 Hob.out (.string A.name) (.string A.above) (.int .i64 A.syn) (.int .i64 A.rule) (.bool A.single) (.bool A.closed)
  have q0 := cellk hR 0 _ rfl
  have q1 := cellk hR 1 _ rfl
  have q2 := cellk hR 2 _ rfl
  have q3 := cellk hR 3 _ rfl
  have q4 := cellk hR 4 _ rfl
  have q5 := cellk hR 5 _ rfl
  refine bodyPost_ret (by simp [results, Tryz.results48, go_sem, q0, q1, q2, q3, q4, q5]; try rfl) rfl ?_
  exact ⟨rfl, hB⟩

theorem findP_any (l : List Attr) (v : Value) (name : ByteArray) (w : World) (hs : Sl w v 6 l.length (attrCells l)) (hl : l.length < 1000000) (ha : ∀ a ∈ l, shortA a) :
    Calls Tryz.prog 48 #[v, .string name] w fun e w' => e = .returned (.tuple #[(match findC l name with | some a => a.val | none => Attr.none.val), .bool (findC l name).isSome]) ∧ Bel w w' := by
  obtain ⟨r, hr⟩ : ∃ r, r = findC l name := ⟨_, rfl⟩
  rw [← hr]
  unfold findC at hr
  have HC := fun w' (h : Bel w w') => Lib.hid (check_any l v w' (hs.bel h) hl ha)
  have HF := fun w' (h : Bel w w') => Lib.hid (find_any l v name w' (hs.bel h) hl)
  obtain ⟨q, cap, rfl⟩ : ∃ q cap, v = .slice q l.length cap := by obtain ⟨_, q, cap, h, _⟩ := hs; exact ⟨q, cap, h⟩
  clear hs ha
  unfold checkN at HC
  cases hc : checkA l with
  | false =>
    rw [hc] at hr HC
    simp only [Bool.false_eq_true, if_false] at hr HC
    subst hr
    go_enter Tryz.func48, Tryz.ntmps48
    go_wp2_with fail
    refine (HC _ ((Bel.refl _).alloc _)).out.mono ?_
    rintro e w' ⟨rfl, hb'⟩
    have Hob := Lib.hid (hb'.at (new_at w _))
    have z0 := cellk Hob.out 0 _ rfl
    have y0 := freek Hob.out 0
    have z1 := cellk Hob.out 1 _ rfl
    have y1 := freek Hob.out 1
    have z2 := cellk Hob.out 2 _ rfl
    have y2 := freek Hob.out 2
    have z3 := cellk Hob.out 3 _ rfl
    have y3 := freek Hob.out 3
    have z4 := cellk Hob.out 4 _ rfl
    have y4 := freek Hob.out 4
    have z5 := cellk Hob.out 5 _ rfl
    have y5 := freek Hob.out 5
    have Hb := Lib.hid hb'
    clear hb'
    go_wp2
    have hB := (((Bel.refl _).alloc _).trans Hb.out).set6 (Nat.le_refl _) (.string ⟨#[]⟩) (.string ⟨#[]⟩) (.int .i64 0) (.int .i64 0) (.bool false) (.bool false)
    have hR := at_set6 Hob.out (.string ⟨#[]⟩) (.string ⟨#[]⟩) (.int .i64 0) (.int .i64 0) (.bool false) (.bool false)
    have q0 := cellk hR 0 _ rfl
    have q1 := cellk hR 1 _ rfl
    have q2 := cellk hR 2 _ rfl
    have q3 := cellk hR 3 _ rfl
    have q4 := cellk hR 4 _ rfl
    have q5 := cellk hR 5 _ rfl
    refine bodyPost_ret (by simp [results, Tryz.results48, go_sem, q0, q1, q2, q3, q4, q5]; try rfl) rfl ?_
    exact ⟨rfl, hB⟩
  | true =>
    rw [hc] at hr HC
    simp only [if_true] at hr HC
    rw [← hr] at HF
    cases r with
    | none => exact findP_core q l.length cap name w Attr.none false HC HF
    | some a => exact findP_core q l.length cap name w a true HC HF
end Go.Proofs.YtljeeehimcdmbaaGreatDoor
end
