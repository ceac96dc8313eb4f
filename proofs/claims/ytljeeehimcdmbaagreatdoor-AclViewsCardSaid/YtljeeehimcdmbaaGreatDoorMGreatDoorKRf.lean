/- AclViews: parts of its proof. No condition. -/
import Derived.RangeFuncNested
import Derived.Lib.Bytealg
import Derived.Lib.LastIndexByte
section
/- A law for a range over an iterator that keeps state of its own in one cell. No condition. -/
namespace Go
open Go.RowKit
variable {F : Fence} {n : Nat} {P : Program}

/-- What is said between two rounds does not mind a write to block kb, nor new blocks. -/
def AbidesRow1 {β : Type} (kb : Nat) (J : β → World → Prop) : Prop :=
  ∀ s W W', J s W → W.grownBy W' (some kb) → J s W'

/-- The contract of an iterator that writes the block kb alone, and new blocks; a round that goes on keeps kb. -/
def SeqCell1 {α : Type} (F : Fence) (n : Nat) (P : Program) (g : Nat) (lb : Array Value) (encs : α → Array Value) (kb : Nat) (S Sp : List α → Prop) (w : World) : Prop :=
  ∀ (l : Nat) (J Jx : List α → World → Prop) (W : World), W.heap[kb]? = w.heap[kb]? → kb < W.heap.size → AbidesRow1 kb J → (∀ pre, AbidesRow1 kb (fun (_ : Unit) => Jx pre)) →
    (∀ pre x W1, J pre W1 → kb < W1.heap.size → YieldAt F (n - 1) P l (encs x) W1 fun e W' =>
      (e = .returned (.bool true) ∧ J (pre ++ [x]) W' ∧ W'.heap[kb]? = W1.heap[kb]? ∧ W1.heap.size ≤ W'.heap.size) ∨ (e = .returned (.bool false) ∧ Jx (pre ++ [x]) W')) →
    J [] W →
    CallsIn F n P g (#[.func (.yield l) #[] #[]] ++ lb) W fun e W' => (∃ v, e = .returned v) ∧ ((∃ xs, S xs ∧ J xs W') ∨ (∃ pre, Sp pre ∧ Jx pre W'))

/-- How the body of a round may be left. -/
def cellPost1 {α : Type} (B kb : Nat) (I : List α → World → Prop) (Ix : Code → List α → World → Prop) (xs : List α) (W : World) : Exit → Act → World → Prop
  | .normal, _, W' => KeepsFrom B W W' ∧ W'.heap[kb]? = W.heap[kb]? ∧ I xs W'
  | .ret, _, W' => KeepsFrom B W W' ∧ Ix .ret xs W'
  | .exit id, _, W' => KeepsFrom B W W' ∧ Ix (.exit id) xs W'
  | .goto t, _, W' => KeepsFrom B W W' ∧ Ix (.goto t) xs W'
  | .panic _, _, _ => False
  | .outgrown, _, _ => False

theorem wpIn_rangeFunc_cell1 {α : Type} {g : Operand} {ps : Array Tmp} {assign body : Code} {Q : Exit → Act → World → Prop} {a : Act} {w : World}
    (hro : F.round = none) (h1 : 1 ≤ n) {gf : Nat} {lb : Array Value} (hg : a.eval g = .func (.func gf) #[] lb) (hFg : F.fn gf) (eg : ∀ args w, (callFunc gf args).run P w = .ok (.enter gf args) w)
    {encs : α → Array Value} {kb : Nat} (hkb : kb < w.heap.size) {S Sp : List α → Prop} (hseq : SeqCell1 F (n - 1) P gf lb encs kb S Sp w)
    (hps : ∀ x, (encs x).size = ps.size)
    (I : List α → World → Prop) (Ix : Code → List α → World → Prop) (hI : OwnFrom w.heap.size I) (hIx : ∀ c, OwnFrom w.heap.size (Ix c))
    (hK : AbidesRow1 kb I) (hKx : ∀ c, AbidesRow1 kb (Ix c)) (h0 : I [] w) (a₁ : α → Act)
    (hassign : ∀ (l : Nat) (x : α) (W : World) (K : Act → World → Prop), K (a₁ x) W →
      assign.wpIn (F.inRound l) (n - 1 - 1) P (Exit.then K (fun _ _ _ => False)) { tmps := (ps.zip (encs x)).foldl (fun t (p, v) => t.setIfInBounds p v) a.tmps, defers := [] } W)
    (hbody : ∀ (l : Nat) (pre : List α) (x : α) (W : World), I pre W → body.wpIn (F.inRound l) (n - 1 - 1) P (cellPost1 w.heap.size kb I Ix (pre ++ [x]) W) (a₁ x) W)
    (hdone : ∀ (D : Nat) (xs : List α) (W : World), w.heap.size ≤ D → S xs → I xs W → W.heap[D]? = some (.deferred (some [])) → Q .normal { a with defers := { target := .collected D, args := #[] } :: a.defers } W)
    (hstop : ∀ (D : Nat) (c : Code) (pre : List α) (W : World), w.heap.size ≤ D → Sp pre → Ix c pre W → W.heap[D]? = some (.deferred (some [])) → c.wpIn F n P Q { a with defers := { target := .collected D, args := #[] } :: a.defers } W) :
    (Code.rangeFunc g ps assign body).wpIn F n P Q a w := by
  refine wpIn_rangeFunc ?_
  intro fn hfn
  rw [hro]
  obtain ⟨rec, hrec⟩ : ∃ rec : LoopState → Option Code → Loop, rec = fun st pe => { state := st, pending := pe, fn, tmps := a.tmps, params := ps, assign, body, defers := w.heap.size } := ⟨_, rfl⟩
  obtain ⟨W1, hW1⟩ : ∃ W1, (w.alloc (.deferred (some []))).alloc (.loop (rec .ready none)) = W1 := ⟨_, rfl⟩
  have hs1 : W1.heap.size = w.heap.size + 2 := by rw [← hW1]; simp
  have hL1 : W1.heap[w.heap.size + 1]? = some (.loop (rec .ready none)) := by
    rw [← hW1]; have := World.alloc_heap_new (w.alloc (.deferred (some []))) (.loop (rec .ready none)); rwa [World.size_alloc] at this
  have hK1 : W1.heap[w.heap.size]? = some (.deferred (some [])) := by
    rw [← hW1]; exact (Below.heap_alloc _ _ _ (by simp)).trans (World.alloc_heap_new w _)
  have hI1 : I [] W1 := by rw [← hW1]; exact hI.alloc _ (hI.alloc _ h0)
  have hkb1 : W1.heap[kb]? = w.heap[kb]? := by
    rw [← hW1]; exact (Below.heap_alloc _ _ _ (by simp; omega)).trans (Below.heap_alloc _ _ _ hkb)
  refine ⟨w.heap.size + 1, [{ target := .collected w.heap.size, args := #[] }], W1, { target := .fn (.func gf) lb, args := #[.func (.yield (w.heap.size + 1)) #[] #[]] }, W1, gf,
    #[.func (.yield (w.heap.size + 1)) #[] #[]] ++ lb, W1, ?_, ?_, ?_, ?_, fun _ => h1, ?_⟩
  · rw [← hW1, hrec]; exact run_enterLoop_outer _ _ _ _ _
  · simp only [resolve, hg]
    simp [go_sem]
  · intro f' hf'; simp [Target.leads] at hf'; subst hf'; exact hFg
  · simp [invoke, go_sem, eg]
  · have keep : ∀ {A B : World} {k : Nat} {o : Obj}, A.grownBy B (some kb) → w.heap.size ≤ k → A.heap[k]? = some o → B.heap[k]? = some o := fun hg' hk ho =>
      (hg'.block _ (Array.getElem?_eq_some_iff.1 ho).1 (fun e => by cases e; omega)).trans ho
    refine (hseq (w.heap.size + 1)
      (fun pre W => I pre W ∧ W.heap[w.heap.size + 1]? = some (.loop (rec .ready none)) ∧ W.heap[w.heap.size]? = some (.deferred (some [])))
      (fun pre W => ∃ c, Ix c pre W ∧ W.heap[w.heap.size + 1]? = some (.loop (rec .done (some c))) ∧ W.heap[w.heap.size]? = some (.deferred (some [])))
      W1 hkb1 (by omega)
      (fun s A B hs hg' => ⟨hK s A B hs.1 hg', keep hg' (by omega) hs.2.1, keep hg' (Nat.le_refl _) hs.2.2⟩)
      (fun pre _ A B hs hg' => by
        obtain ⟨c, hc, hl, hk⟩ := hs
        exact ⟨c, hKx c pre A B hc hg', keep hg' (by omega) hl, keep hg' (Nat.le_refl _) hk⟩)
      ?_ ⟨hI1, hL1, hK1⟩).mono ?_
    · rintro pre x W ⟨hi, hl, hk⟩ hkW
      have hlt : w.heap.size + 1 < W.heap.size := (Array.getElem?_eq_some_iff.1 hl).1
      have hy := run_yield (P := P) (args := encs x) hl (by rw [hrec]; exact hps x)
      rw [hrec] at hy
      refine ⟨fn, _, assign, body, hy, roundIn_of_wpIn hfn (hassign _ x W _ ⟨_, run_beginRound hl (by rw [hrec]), ?_⟩)⟩
      have hl2 : (W.putObj (w.heap.size + 1) (.loop { rec .ready none with state := .busy })).heap[w.heap.size + 1]? = some (.loop { rec .ready none with state := .busy }) := World.putObj_heap_same hlt
      have hk2 : (W.putObj (w.heap.size + 1) (.loop { rec .ready none with state := .busy })).heap[w.heap.size]? = some (.deferred (some [])) := (World.putObj_heap_other (by omega)).trans hk
      have hkb2 : (W.putObj (w.heap.size + 1) (.loop { rec .ready none with state := .busy })).heap[kb]? = W.heap[kb]? := World.putObj_heap_other (by omega)
      have hsz2 : (W.putObj (w.heap.size + 1) (.loop { rec .ready none with state := .busy })).heap.size = W.heap.size := by simp
      refine wpIn_mono (hbody _ pre x _ (hI.putObj _ hi (by omega) hl rfl)) ?_
      have fin : ∀ (jump : Option Code) (W3 : World), KeepsFrom w.heap.size (W.putObj (w.heap.size + 1) (.loop { rec .ready none with state := .busy })) W3 →
          (Instr.endRound (w.heap.size + 1) jump).run P W3 = .ok (.bool jump.isNone) (W3.putObj (w.heap.size + 1) (.loop (rec (if jump.isNone then .ready else .done) jump))) ∧
          W3.heap[w.heap.size + 1]? = some (.loop { rec .ready none with state := .busy }) ∧
          (W3.putObj (w.heap.size + 1) (.loop (rec (if jump.isNone then .ready else .done) jump))).heap[w.heap.size + 1]? = some (.loop (rec (if jump.isNone then .ready else .done) jump)) ∧
          (W3.putObj (w.heap.size + 1) (.loop (rec (if jump.isNone then .ready else .done) jump))).heap[w.heap.size]? = some (.deferred (some [])) := fun jump W3 hk3 => by
        have hl3 := hk3.same _ _ (by omega) hl2 rfl
        have := run_endRound (P := P) jump hl3
        rw [hrec] at this ⊢
        exact ⟨this, by rw [hrec] at hl3; exact hl3, World.putObj_heap_same (Array.getElem?_eq_some_iff.1 hl3).1, (World.putObj_heap_other (by omega)).trans (hk3.same _ _ (Nat.le_refl _) hk2 rfl)⟩
      rintro e a3 W3 hp
      cases e with
      | normal =>
        obtain ⟨hk3, hkp3, hi3⟩ := hp
        obtain ⟨hr, hl3, hl4, hk4⟩ := fin none W3 hk3
        exact ⟨_, _, hr, .inl ⟨rfl, ⟨hI.putObj _ hi3 (by omega) hl3 rfl, hl4, hk4⟩, ((World.putObj_heap_other (by omega)).trans hkp3).trans hkb2, by have := hk3.size; rw [hsz2] at this; simpa using this⟩⟩
      | ret =>
        obtain ⟨hk3, hi3⟩ := hp
        obtain ⟨hr, hl3, hl4, hk4⟩ := fin (some .ret) W3 hk3
        exact ⟨_, _, hr, .inr ⟨rfl, .ret, (hIx _).putObj _ hi3 (by omega) hl3 rfl, hl4, hk4⟩⟩
      | exit id =>
        obtain ⟨hk3, hi3⟩ := hp
        obtain ⟨hr, hl3, hl4, hk4⟩ := fin (some (.exit id)) W3 hk3
        exact ⟨_, _, hr, .inr ⟨rfl, .exit id, (hIx _).putObj _ hi3 (by omega) hl3 rfl, hl4, hk4⟩⟩
      | goto t =>
        obtain ⟨hk3, hi3⟩ := hp
        obtain ⟨hr, hl3, hl4, hk4⟩ := fin (some (.goto t)) W3 hk3
        exact ⟨_, _, hr, .inr ⟨rfl, .goto t, (hIx _).putObj _ hi3 (by omega) hl3 rfl, hl4, hk4⟩⟩
      | panic ch => exact hp.elim
      | outgrown => exact hp.elim
    · rintro e W2 ⟨⟨v, rfl⟩, (⟨xs, hS, hi, hl, hk⟩ | ⟨pre, hSp, c, hi, hl, hk⟩)⟩
      · exact ⟨none, _, by have := run_endLoop (P := P) hl (by rw [hrec]; simp); rw [hrec] at this; exact this, hdone _ xs _ (Nat.le_refl _) hS (hI.putObj _ hi (by omega) hl rfl) ((World.putObj_heap_other (by omega)).trans hk)⟩
      · exact ⟨some c, _, by have := run_endLoop (P := P) hl (by rw [hrec]; simp); rw [hrec] at this; exact this, hstop _ c pre _ (Nat.le_refl _) hSp ((hIx c).putObj _ hi (by omega) hl rfl) ((World.putObj_heap_other (by omega)).trans hk)⟩

end Go
end

section
/- Keys of names as lists of bytes: plain facts, no program. No condition. -/
namespace Go.Key

/-- How many parts bytes have; none: they are no key. s: has a part begun? -/
def scan : Bool → List UInt8 → Option Nat
  | s, [] => if s then none else some 0
  | s, c :: r => if c = 0 then (if s then (scan false r).map (· + 1) else none) else scan true r

theorem scan_cons (s : Bool) (c : UInt8) (r : List UInt8) : scan s (c :: r) = if c = 0 then (if s then (scan false r).map (· + 1) else none) else scan true r := by cases s <;> rfl

def depth (l : List UInt8) : Option Nat := scan false l

theorem index_none : ∀ (l : List UInt8), Lib.indexByte l 0 = -1 → ∀ s, scan s l = if s || !l.isEmpty then none else some 0
  | [], _, s => by cases s <;> rfl
  | c :: r, h, s => by
    unfold Lib.indexByte at h
    by_cases hc : c = 0
    · subst hc; simp at h
    · have hb : (c == 0) = false := beq_eq_false_iff_ne.2 hc
      rw [hb] at h
      simp only [Bool.false_eq_true, if_false] at h
      have hr : Lib.indexByte r 0 = -1 := by
        split at h
        · next e => exact of_decide_eq_true e
        · have := Lib.indexByte_ge r 0; omega
      rw [scan_cons, if_neg hc, index_none r hr true]
      simp

theorem index_some : ∀ (l : List UInt8) (i : Nat), Lib.indexByte l 0 = i → i < l.length ∧ ∀ s, (s = true ∨ 0 < i) → scan s l = (scan false (l.drop (i + 1))).map (· + 1)
  | [], i, h => by unfold Lib.indexByte at h; omega
  | c :: r, i, h => by
    unfold Lib.indexByte at h
    by_cases hc : c = 0
    · subst hc
      simp only [beq_self_eq_true, if_true] at h
      obtain rfl : i = 0 := by omega
      refine ⟨by simp, fun s hs => ?_⟩
      rcases hs with rfl | hs
      · simp [scan]
      · omega
    · have hb : (c == 0) = false := beq_eq_false_iff_ne.2 hc
      rw [hb] at h
      simp only [Bool.false_eq_true, if_false] at h
      split at h
      · omega
      · have hge := Lib.indexByte_ge r 0
        next hne =>
        have hne' : Lib.indexByte r 0 ≠ -1 := by intro e; rw [e] at hne; simp at hne
        obtain ⟨j, hj⟩ : ∃ j : Nat, Lib.indexByte r 0 = j := ⟨(Lib.indexByte r 0).toNat, by omega⟩
        obtain ⟨h1, h2⟩ := index_some r j hj
        obtain rfl : i = j + 1 := by omega
        refine ⟨by simp; omega, fun s _ => ?_⟩
        rw [scan_cons, if_neg hc, h2 true (.inl rfl)]
        simp

theorem index_zero (l : List UInt8) (h : Lib.indexByte l 0 = 0) : scan false l = none := by
  cases l with
  | nil => unfold Lib.indexByte at h; omega
  | cons c r =>
    unfold Lib.indexByte at h
    by_cases hc : c = 0
    · subst hc; simp [scan]
    · have hb : (c == 0) = false := beq_eq_false_iff_ne.2 hc
      rw [hb] at h
      simp only [Bool.false_eq_true, if_false] at h
      split at h
      · omega
      · have := Lib.indexByte_ge r 0
        next hne =>
        have hne' : Lib.indexByte r 0 ≠ -1 := by intro e; rw [e] at hne; simp at hne
        omega

theorem scan_le : ∀ (l : List UInt8) (s : Bool) (d : Nat), scan s l = some d → d ≤ l.length
  | [], s, d, h => by cases s <;> simp [scan] at h; omega
  | c :: r, s, d, h => by
    rw [scan_cons] at h
    by_cases hc : c = 0
    · rw [if_pos hc] at h
      cases s
      · simp at h
      · cases hr : scan false r with
        | none => rw [hr] at h; simp at h
        | some e =>
          rw [hr] at h; simp at h
          have := scan_le r false e hr
          simp; omega
    · rw [if_neg hc] at h
      have := scan_le r true d h
      simp; omega
theorem depth_le (l : List UInt8) (d : Nat) (h : depth l = some d) : d ≤ l.length := scan_le l false d h

def isKey (l : List UInt8) : Bool := (depth l).isSome

/-- Where the part above ends, among the first n bytes. -/
def aboveAt (l : List UInt8) : Nat → Nat
  | 0 => 0
  | n + 1 => if l.getD n 0 = 0 then n + 1 else aboveAt l n
theorem aboveAt_le (l : List UInt8) : ∀ n, aboveAt l n ≤ n
  | 0 => Nat.le_refl _
  | n + 1 => by
    unfold aboveAt
    split
    · exact Nat.le_refl _
    · exact Nat.le_trans (aboveAt_le l n) (Nat.le_succ n)

theorem lastIdx_at (s : ByteArray) (l : List UInt8) : ∀ n, n ≤ s.size → (∀ i, i < n → s.data.toList.getD i 0 = l.getD i 0) → Lib.lastIdx s 0 n + 1 = aboveAt l n
  | 0, _, _ => rfl
  | n + 1, h, he => by
    have e : (s.data[n]! : UInt8) = l.getD n 0 := by
      rw [← he n (by omega)]
      have hn : n < s.data.size := h
      rw [List.getD_eq_getElem?_getD, Array.getElem?_toList, Array.getElem!_eq_getD, Array.getD_eq_getD_getElem?]; rfl
    unfold Lib.lastIdx aboveAt
    rw [e]
    by_cases hc : l.getD n 0 = 0
    · rw [if_pos hc, hc]; simp
    · have : ¬ ((l.getD n 0).toNat : Int) = 0 := by
        intro h0
        apply hc
        exact UInt8.toNat_inj.1 (by simpa using h0)
      rw [if_neg this, if_neg hc]
      exact lastIdx_at s l n (by omega) (fun i hi => he i (by omega))

def above (l : List UInt8) : List UInt8 := l.take (aboveAt l (l.length - 1))
def behind (l : List UInt8) : List UInt8 := if l.isEmpty || !isKey l then [255] else l.dropLast ++ [1]
def under (a b : List UInt8) : Bool := isKey a && isKey b && b.isPrefixOf a
def next (a b : List UInt8) : Bool := !a.isEmpty && isKey a && (above a == b)


/-- Has a part begun ahead of place k? -/
def begun (l : List UInt8) (k : Nat) : Bool := decide (0 < k) && (l.getD (k - 1) 0 != 0)
/-- What has been seen ahead of place k is well. -/
def seen (l : List UInt8) (k : Nat) : Prop := ∃ c, scan false l = (scan (begun l k) (l.drop k)).map (· + c)

theorem seen_start (l : List UInt8) : seen l 0 := ⟨0, by simp [begun]⟩
theorem drop_cons (l : List UInt8) (k : Nat) (h : k < l.length) : l.drop k = l.getD k 0 :: l.drop (k + 1) := by
  rw [List.drop_eq_getElem_cons h, List.getD_eq_getElem?_getD, List.getElem?_eq_getElem h]; rfl
theorem seen_step (l : List UInt8) (k : Nat) (h : k < l.length) (hb : l.getD k 0 = 0 → begun l k = true) (hs : seen l k) : seen l (k + 1) := by
  obtain ⟨c, hc⟩ := hs
  rw [drop_cons l k h, scan_cons] at hc
  by_cases h0 : l.getD k 0 = 0
  · rw [if_pos h0, if_pos (hb h0)] at hc
    refine ⟨1 + c, ?_⟩
    have e : begun l (k + 1) = false := by unfold begun; simp; exact h0
    rw [e, hc, Option.map_map]
    congr 1
    funext y
    simp; omega
  · rw [if_neg h0] at hc
    refine ⟨c, ?_⟩
    have e : begun l (k + 1) = true := by unfold begun; simp; exact h0
    rw [e, hc]
theorem seen_bad (l : List UInt8) (k : Nat) (h : k < l.length) (h0 : l.getD k 0 = 0) (hb : begun l k = false) (hs : seen l k) : isKey l = false := by
  obtain ⟨c, hc⟩ := hs
  rw [drop_cons l k h, scan_cons, if_pos h0, hb] at hc
  simp at hc
  unfold isKey depth
  rw [hc]; rfl
theorem seen_end (l : List UInt8) (hs : seen l l.length) : isKey l = !(begun l l.length) := by
  obtain ⟨c, hc⟩ := hs
  rw [List.drop_length] at hc
  unfold isKey depth
  rw [hc]
  cases begun l l.length <;> rfl

/-- How many parts a key has: as many as it has zero bytes. -/
theorem scan_count : ∀ (l : List UInt8) (s : Bool) (d : Nat), scan s l = some d → d = l.count 0
  | [], s, d, h => by cases s <;> simp [scan] at h; subst h; rfl
  | c :: r, s, d, h => by
    rw [scan_cons] at h
    by_cases hc : c = 0
    · rw [if_pos hc] at h
      subst hc
      cases s
      · simp at h
      · cases hr : scan false r with
        | none => rw [hr] at h; simp at h
        | some e =>
          rw [hr] at h; simp at h
          have := scan_count r false e hr
          simp; omega
    · rw [if_neg hc] at h
      have := scan_count r true d h
      rw [List.count_cons, this]
      simp [hc]
theorem count_snoc (l : List UInt8) (k : Nat) (h : k < l.length) : (l.take (k + 1)).count 0 = (l.take k).count 0 + if l.getD k 0 = 0 then 1 else 0 := by
  rw [List.take_succ_eq_append_getElem h, List.count_append, List.getD_eq_getElem?_getD, List.getElem?_eq_getElem h]
  simp [List.count_cons]


theorem scan_zero : ∀ (l : List UInt8), scan false l = some 0 → l = []
  | [], _ => rfl
  | c :: r, h => by
    rw [scan_cons] at h
    by_cases hc : c = 0
    · rw [if_pos hc] at h; simp at h
    · rw [if_neg hc] at h
      exact absurd (scan_true_pos r 0 h) (by omega)
where
  scan_true_pos : ∀ (l : List UInt8) (d : Nat), scan true l = some d → 0 < d
    | [], d, h => by simp [scan] at h
    | c :: r, d, h => by
      rw [scan_cons] at h
      by_cases hc : c = 0
      · rw [if_pos hc] at h
        cases hr : scan false r with
        | none => rw [hr] at h; simp at h
        | some e => rw [hr] at h; simp at h; omega
      · rw [if_neg hc] at h
        exact scan_true_pos r d h

end Go.Key
end
