/- A law for a range over an iterator that keeps state of its own in one cell, and reads others. No condition. -/
import Derived.RangeFuncNested
namespace Go
open Go.RowKit
variable {F : Fence} {n : Nat} {P : Program}

/-- What is said between two rounds does not mind a write to block kb, nor new blocks. -/
def AbidesRow {β : Type} (kb : Nat) (J : β → World → Prop) : Prop :=
  ∀ s W W', J s W → W.grownBy W' (some kb) → J s W'

/-- The contract of an iterator that writes the block kb alone, and new blocks; a round that goes on keeps kb. -/
def SeqCell {α : Type} (F : Fence) (n : Nat) (P : Program) (g : Nat) (lb : Array Value) (encs : α → Array Value) (kb : Nat) (Kp : Nat → Prop) (M : Nat) (S Sp : List α → Prop) (w : World) : Prop :=
  ∀ (l : Nat) (J Jx : List α → World → Prop) (W : World), (∀ k, Kp k → k < w.heap.size → W.heap[k]? = w.heap[k]?) → w.heap.size + 2 ≤ W.heap.size → AbidesRow kb J → (∀ pre, AbidesRow kb (fun (_ : Unit) => Jx pre)) →
    (∀ pre x W1 o, pre.length < M → J pre W1 → w.heap.size + 2 ≤ W1.heap.size → YieldAt F (n - 1) P l (encs x) (W1.alloc o) fun e W' =>
      (e = .returned (.bool true) ∧ J (pre ++ [x]) W' ∧ (∀ k, Kp k → k < W1.heap.size → W'.heap[k]? = W1.heap[k]?) ∧ W'.heap[W1.heap.size]? = some o ∧ W1.heap.size < W'.heap.size) ∨ (e = .returned (.bool false) ∧ Jx (pre ++ [x]) W')) →
    J [] W →
    CallsIn F n P g (#[.func (.yield l) #[] #[]] ++ lb) W fun e W' => (∃ v, e = .returned v) ∧ ((∃ xs, S xs ∧ J xs W') ∨ (∃ pre, Sp pre ∧ Jx pre W'))

/-- New blocks alone. -/
def Grows (B : Nat) (W W' : World) : Prop := KeepsFrom B W W' ∧ W.grownBy W' none

/-- How the body of a round may be left. -/
def cellPost {α : Type} (B N : Nat) (Kp : Nat → Prop) (I : List α → World → Prop) (Ix : Code → List α → World → Prop) (xs : List α) (W : World) : Exit → Act → World → Prop
  | .normal, _, W' => KeepsFrom B W W' ∧ (∀ k, Kp k → k < N → W'.heap[k]? = W.heap[k]?) ∧ W'.heap[N]? = W.heap[N]? ∧ I xs W'
  | .ret, _, W' => KeepsFrom B W W' ∧ Ix .ret xs W'
  | .exit id, _, W' => KeepsFrom B W W' ∧ Ix (.exit id) xs W'
  | .goto t, _, W' => KeepsFrom B W W' ∧ Ix (.goto t) xs W'
  | .panic _, _, _ => False
  | .outgrown, _, _ => False

/-- The law: the assignment to the loop's left sides may lay a block; the body keeps the block N that the iterator has laid last. -/
theorem wpIn_rangeFunc_cell {α : Type} {g : Operand} {ps : Array Tmp} {assign body : Code} {Q : Exit → Act → World → Prop} {a : Act} {w : World}
    (hro : F.round = none) (h1 : 1 ≤ n) {gf : Nat} {lb : Array Value} (hg : a.eval g = .func (.func gf) #[] lb) (hFg : F.fn gf) (eg : ∀ args w, (callFunc gf args).run P w = .ok (.enter gf args) w)
    {encs : α → Array Value} {kb : Nat} (hkb : kb < w.heap.size) {Kp : Nat → Prop} (hKp : ∀ k, Kp k → k ≠ w.heap.size ∧ k ≠ w.heap.size + 1) {M : Nat} {S Sp : List α → Prop} (hseq : SeqCell F (n - 1) P gf lb encs kb Kp M S Sp w)
    (hps : ∀ x, (encs x).size = ps.size)
    (I : List α → World → Prop) (Ix : Code → List α → World → Prop) (hI : OwnFrom w.heap.size I) (hIx : ∀ c, OwnFrom w.heap.size (Ix c))
    (hK : AbidesRow kb I) (hKx : ∀ c, AbidesRow kb (Ix c)) (h0 : I [] w) (free : Nat → List α → World → Prop) (hfree : ∀ pre W o, I pre W → free W.heap.size pre (W.alloc o)) (hfr : ∀ N, OwnFrom w.heap.size (free N)) (Ax : α → Act → World → Prop) (hAx : ∀ x a', OwnFrom w.heap.size (fun (_ : Unit) W => Ax x a' W))
    (hassign : ∀ (l : Nat) (pre : List α) (x : α) (W : World) (K : Act → World → Prop), I pre W →
      (∀ a' W', Grows w.heap.size W W' → I pre W' → Ax x a' W' → K a' W') →
      assign.wpIn (F.inRound l) (n - 1 - 1) P (Exit.then K (fun _ _ _ => False)) { tmps := (ps.zip (encs x)).foldl (fun t (p, v) => t.setIfInBounds p v) a.tmps, defers := [] } W)
    (hbody : ∀ (l : Nat) (pre : List α) (x : α) (a' : Act) (N : Nat) (W : World), pre.length < M → I pre W → free N pre W → N < W.heap.size → Ax x a' W → body.wpIn (F.inRound l) (n - 1 - 1) P (cellPost w.heap.size N Kp I Ix (pre ++ [x]) W) a' W)
    (hdone : ∀ (D : Nat) (xs : List α) (W : World), w.heap.size ≤ D → S xs → I xs W → W.heap[D]? = some (.deferred (some [])) → Q .normal { a with defers := { target := .collected D, args := #[] } :: a.defers } W)
    (hstop : ∀ (D : Nat) (c : Code) (pre : List α) (W : World), w.heap.size ≤ D → Sp pre → Ix c pre W → W.heap[D]? = some (.deferred (some [])) → c.wpIn F n P Q { a with defers := { target := .collected D, args := #[] } :: a.defers } W) :
    (Code.rangeFunc g ps assign body).wpIn F n P Q a w := by
  refine wpIn_rangeFunc ?_
  intro fn hfn
  rw [hro]
  obtain ⟨rec, hrec⟩ : ∃ rec : LoopState → Option Code → Loop, rec = fun st pe => { state := st, pending := pe, fn, tmps := a.tmps, params := ps, assign, body, defers := w.heap.size } := ⟨_, rfl⟩
  obtain ⟨W1, hW1⟩ : ∃ W1, (w.alloc (.deferred (some []))).alloc (.loop (rec .ready none)) = W1 := ⟨_, rfl⟩
  have hs1 : W1.heap.size = w.heap.size + 2 := by rw [← hW1]; simp
  have hL1 : W1.heap[w.heap.size + 1]? = some (.loop (rec .ready none)) := by
    rw [← hW1]; have := World.alloc_heap_new (w.alloc (.deferred (some []))) (.loop (rec .ready none)); rwa [World.size_alloc] at this
  have hK1 : W1.heap[w.heap.size]? = some (.deferred (some [])) := by
    rw [← hW1]; exact (Below.heap_alloc _ _ _ (by simp)).trans (World.alloc_heap_new w _)
  have hI1 : I [] W1 := by rw [← hW1]; exact hI.alloc _ (hI.alloc _ h0)
  have hkb1 : ∀ k, Kp k → k < w.heap.size → W1.heap[k]? = w.heap[k]? := by
    intro k _ hk'
    rw [← hW1]; exact (Below.heap_alloc _ _ _ (by simp; omega)).trans (Below.heap_alloc _ _ _ hk')
  refine ⟨w.heap.size + 1, [{ target := .collected w.heap.size, args := #[] }], W1, { target := .fn (.func gf) lb, args := #[.func (.yield (w.heap.size + 1)) #[] #[]] }, W1, gf,
    #[.func (.yield (w.heap.size + 1)) #[] #[]] ++ lb, W1, ?_, ?_, ?_, ?_, fun _ => h1, ?_⟩
  · rw [← hW1, hrec]; exact run_enterLoop_outer _ _ _ _ _
  · simp only [resolve, hg]
    simp [go_sem]
  · intro f' hf'; simp [Target.leads] at hf'; subst hf'; exact hFg
  · simp [invoke, go_sem, eg]
  · have keep : ∀ {A B : World} {k : Nat} {o : Obj}, A.grownBy B (some kb) → w.heap.size ≤ k → A.heap[k]? = some o → B.heap[k]? = some o := fun hg' hk ho =>
      (hg'.block _ (Array.getElem?_eq_some_iff.1 ho).1 (fun e => by cases e; omega)).trans ho
    refine (hseq (w.heap.size + 1)
      (fun pre W => I pre W ∧ W.heap[w.heap.size + 1]? = some (.loop (rec .ready none)) ∧ W.heap[w.heap.size]? = some (.deferred (some [])))
      (fun pre W => ∃ c, Ix c pre W ∧ W.heap[w.heap.size + 1]? = some (.loop (rec .done (some c))) ∧ W.heap[w.heap.size]? = some (.deferred (some [])))
      W1 hkb1 (by omega)
      (fun s A B hs hg' => ⟨hK s A B hs.1 hg', keep hg' (by omega) hs.2.1, keep hg' (Nat.le_refl _) hs.2.2⟩)
      (fun pre _ A B hs hg' => by
        obtain ⟨c, hc, hl, hk⟩ := hs
        exact ⟨c, hKx c pre A B hc hg', keep hg' (by omega) hl, keep hg' (Nat.le_refl _) hk⟩)
      ?_ ⟨hI1, hL1, hK1⟩).mono ?_
    · rintro pre x V0 o hlen ⟨hi0, hl0, hk0⟩ hkV
      obtain ⟨V, hV⟩ : ∃ V, V = V0.alloc o := ⟨_, rfl⟩
      have hVs : V.heap.size = V0.heap.size + 1 := by rw [hV]; simp
      have hVo : V.heap[V0.heap.size]? = some o := by rw [hV]; exact World.alloc_heap_new V0 o
      have hVk : ∀ k, k < V0.heap.size → V.heap[k]? = V0.heap[k]? := fun k hk => by rw [hV]; exact Below.heap_alloc V0 o k hk
      have hl0' : V.heap[w.heap.size + 1]? = some (.loop (rec .ready none)) := (hVk _ (Array.getElem?_eq_some_iff.1 hl0).1).trans hl0
      have hk0' : V.heap[w.heap.size]? = some (.deferred (some [])) := (hVk _ (Array.getElem?_eq_some_iff.1 hk0).1).trans hk0
      have hiV : I pre V := by rw [hV]; exact hI.alloc _ hi0
      have hfV : free V0.heap.size pre V := by rw [hV]; exact hfree pre V0 o hi0
      rw [← hV]
      have hy := run_yield (P := P) (args := encs x) hl0' (by rw [hrec]; exact hps x)
      rw [hrec] at hy
      refine ⟨fn, _, assign, body, hy, roundIn_of_wpIn hfn (hassign _ pre x V _ hiV (fun a₁ W hgr hi hax => ?_))⟩
      obtain ⟨hkf, hgb⟩ := hgr
      have hl : W.heap[w.heap.size + 1]? = some (.loop (rec .ready none)) := hkf.same _ _ (by omega) hl0' rfl
      have hk : W.heap[w.heap.size]? = some (.deferred (some [])) := hkf.same _ _ (Nat.le_refl _) hk0' rfl
      have hlt : w.heap.size + 1 < W.heap.size := (Array.getElem?_eq_some_iff.1 hl).1
      have hsz0 := hkf.size
      have hWo : W.heap[V0.heap.size]? = some o := (hgb.block _ (by omega) (by simp)).trans hVo
      have hfW : free V0.heap.size pre W := hfr _ pre V W none hfV hgb (fun k e => by cases e)
      refine ⟨_, run_beginRound hl (by rw [hrec]), ?_⟩
      have hl2 : (W.putObj (w.heap.size + 1) (.loop { rec .ready none with state := .busy })).heap[w.heap.size + 1]? = some (.loop { rec .ready none with state := .busy }) := World.putObj_heap_same hlt
      have hk2 : (W.putObj (w.heap.size + 1) (.loop { rec .ready none with state := .busy })).heap[w.heap.size]? = some (.deferred (some [])) := (World.putObj_heap_other (by omega)).trans hk
      have hkb2 : ∀ k, Kp k → (W.putObj (w.heap.size + 1) (.loop { rec .ready none with state := .busy })).heap[k]? = W.heap[k]? := fun k hk => World.putObj_heap_other (by have := hKp k hk; omega)
      have hsz2 : (W.putObj (w.heap.size + 1) (.loop { rec .ready none with state := .busy })).heap.size = W.heap.size := by simp
      refine wpIn_mono (hbody _ pre x a₁ V0.heap.size _ hlen (hI.putObj _ hi (by omega) hl rfl) ((hfr _).putObj _ hfW (by omega) hl rfl) (by rw [hsz2]; omega) ((hAx x a₁).putObj (s := ()) _ hax (by omega) hl rfl)) ?_
      have fin : ∀ (jump : Option Code) (W3 : World), KeepsFrom w.heap.size (W.putObj (w.heap.size + 1) (.loop { rec .ready none with state := .busy })) W3 →
          (Instr.endRound (w.heap.size + 1) jump).run P W3 = .ok (.bool jump.isNone) (W3.putObj (w.heap.size + 1) (.loop (rec (if jump.isNone then .ready else .done) jump))) ∧
          W3.heap[w.heap.size + 1]? = some (.loop { rec .ready none with state := .busy }) ∧
          (W3.putObj (w.heap.size + 1) (.loop (rec (if jump.isNone then .ready else .done) jump))).heap[w.heap.size + 1]? = some (.loop (rec (if jump.isNone then .ready else .done) jump)) ∧
          (W3.putObj (w.heap.size + 1) (.loop (rec (if jump.isNone then .ready else .done) jump))).heap[w.heap.size]? = some (.deferred (some [])) := fun jump W3 hk3 => by
        have hl3 := hk3.same _ _ (by omega) hl2 rfl
        have := run_endRound (P := P) jump hl3
        rw [hrec] at this ⊢
        exact ⟨this, by rw [hrec] at hl3; exact hl3, World.putObj_heap_same (Array.getElem?_eq_some_iff.1 hl3).1, (World.putObj_heap_other (by omega)).trans (hk3.same _ _ (Nat.le_refl _) hk2 rfl)⟩
      rintro e a3 W3 hp
      cases e with
      | normal =>
        obtain ⟨hk3, hkp3, hN3, hi3⟩ := hp
        obtain ⟨hr, hl3, hl4, hk4⟩ := fin none W3 hk3
        exact ⟨_, _, hr, .inl ⟨rfl, ⟨hI.putObj _ hi3 (by omega) hl3 rfl, hl4, hk4⟩, fun k hk hlt' => (((World.putObj_heap_other (by have := hKp k hk; omega)).trans (hkp3 k hk hlt')).trans (hkb2 k hk)).trans ((hgb.block k (by omega) (by simp)).trans (hVk k hlt')),
          ((World.putObj_heap_other (by omega)).trans hN3).trans ((World.putObj_heap_other (by omega)).trans hWo), by have := hk3.size; rw [hsz2] at this; simp; omega⟩⟩
      | ret =>
        obtain ⟨hk3, hi3⟩ := hp
        obtain ⟨hr, hl3, hl4, hk4⟩ := fin (some .ret) W3 hk3
        exact ⟨_, _, hr, .inr ⟨rfl, .ret, (hIx _).putObj _ hi3 (by omega) hl3 rfl, hl4, hk4⟩⟩
      | exit id =>
        obtain ⟨hk3, hi3⟩ := hp
        obtain ⟨hr, hl3, hl4, hk4⟩ := fin (some (.exit id)) W3 hk3
        exact ⟨_, _, hr, .inr ⟨rfl, .exit id, (hIx _).putObj _ hi3 (by omega) hl3 rfl, hl4, hk4⟩⟩
      | goto t =>
        obtain ⟨hk3, hi3⟩ := hp
        obtain ⟨hr, hl3, hl4, hk4⟩ := fin (some (.goto t)) W3 hk3
        exact ⟨_, _, hr, .inr ⟨rfl, .goto t, (hIx _).putObj _ hi3 (by omega) hl3 rfl, hl4, hk4⟩⟩
      | panic ch => exact hp.elim
      | outgrown => exact hp.elim
    · rintro e W2 ⟨⟨v, rfl⟩, (⟨xs, hS, hi, hl, hk⟩ | ⟨pre, hSp, c, hi, hl, hk⟩)⟩
      · exact ⟨none, _, by have := run_endLoop (P := P) hl (by rw [hrec]; simp); rw [hrec] at this; exact this, hdone _ xs _ (Nat.le_refl _) hS (hI.putObj _ hi (by omega) hl rfl) ((World.putObj_heap_other (by omega)).trans hk)⟩
      · exact ⟨some c, _, by have := run_endLoop (P := P) hl (by rw [hrec]; simp); rw [hrec] at this; exact this, hstop _ c pre _ (Nat.le_refl _) hSp ((hIx c).putObj _ hi (by omega) hl rfl) ((World.putObj_heap_other (by omega)).trans hk)⟩

end Go
