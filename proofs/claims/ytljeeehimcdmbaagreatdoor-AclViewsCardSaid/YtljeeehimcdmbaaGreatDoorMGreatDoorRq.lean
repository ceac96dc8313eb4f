/- AclViews: parts of its proof. No condition. -/
import Derived.Test.YtljeeehimcdmbaaGreatDoorMGreatDoorBase
import Derived.ChangeArms
import Derived.WideShapes
import Derived.KernelRfl
import Derived.Deep.CutRange
import Derived.Deep.DeepCutAuto
import Derived.Test.YtljeeehimcdmbaaGreatDoorProg
section
/- What came in and reads as data: its cells, by its kind, and what stands behind its slices. No condition. -/
namespace Go.Rq
open Go Go.RowKit Go.Wd
/-- What reads at the type t is f of something, of which Q is so; read in fewer than N steps. -/
def Of (P : Program) {α : Type} (f : α → List Value) (Q : World → α → Prop) (sz N : Nat) (t : TypeId) : Prop :=
  ∀ (H : Type) (enc : TypeId × Value → H) (w : World) (base : Nat) (sp : Nat → Bool) (held : Bool) (n : Nat) (cs : List Value) (x : DataW H × List MemPlace), n < N → DataW.trod enc P w base sp held n t cs = some x → ∃ a, cs = f a ∧ cs.length = sz ∧ Q w a
def OfF (P : Program) {α : Type} (fs : List Field) (f : α → List Value) (Q : World → α → Prop) (sz off N : Nat) : Prop :=
  ∀ (H : Type) (enc : TypeId × Value → H) (w : World) (base : Nat) (sp : Nat → Bool) (held : Bool) (n : Nat) (cs : List Value), n < N →
    (∀ f ∈ fs, ∃ y : DataW H × List MemPlace, DataW.trod enc P w base sp held n f.type ((cs.drop f.offset).take (P.cellsOf f.type)) = some y) → cs.length = off + sz → ∃ a, cs.drop off = f a ∧ (cs.drop off).length = sz ∧ Q w a
def TT {α : Type} : World → α → Prop := fun _ _ => True
section
variable {P : Program} {t : TypeId} {α β : Type} {N : Nat}
theorem of_bool (ht : P.underlying t = some .bool) : Of P (fun b : Bool => [.bool b]) TT 1 N t := fun _ _ _ _ _ _ _ _ _ _ h => by
  obtain ⟨b, rfl, _⟩ := DataW.trod_bool ht h
  exact ⟨b, rfl, rfl, trivial⟩
theorem of_int {k : IntKind} (ht : P.underlying t = some (.int k)) : Of P (fun b : Int => [.int k b]) TT 1 N t := fun _ _ _ _ _ _ _ _ _ _ h => by
  obtain ⟨b, rfl, _⟩ := DataW.trod_int ht h
  exact ⟨b, rfl, rfl, trivial⟩
theorem of_string (ht : P.underlying t = some .string) : Of P (fun b : ByteArray => [.string b]) TT 1 N t := fun _ _ _ _ _ _ _ _ _ _ h => by
  obtain ⟨b, rfl, _⟩ := DataW.trod_string ht h
  exact ⟨b, rfl, rfl, trivial⟩
/-- A slice's three words, and what stands behind it. -/
def Hd := Option Addr × Nat × Nat
def Hd.val (a : Hd) : Value := .slice a.1 a.2.1 a.2.2
def Hd.cells (a : Hd) : List Value := [a.val]
def HQ {α : Type} (f : α → List Value) (Q : World → α → Prop) (sz : Nat) (w : World) (a : Hd) : Prop := ∃ zs : List α, a.2.1 = zs.length ∧ Sl w a.val sz zs.length (zs.flatMap f) ∧ ∀ z ∈ zs, Q w z
theorem of_map {f : α → List Value} {g : β → List Value} {Q : World → α → Prop} {Q' : World → β → Prop} {sz : Nat} (hf : ∀ a, ∃ b, f a = g b ∧ ∀ w, Q w a → Q' w b) (h : Of P f Q sz N t) : Of P g Q' sz N t := fun H enc w base sp held n cs x hn hx => by
  obtain ⟨a, ha, hl, hq⟩ := h H enc w base sp held n cs x hn hx
  obtain ⟨b, hb, hq'⟩ := hf a
  exact ⟨b, by rw [ha, hb], hl, hq' w hq⟩
theorem ofF_one {f : α → List Value} {Q : World → α → Prop} {sz : Nat} {fd : Field} {off : Nat} (h : Of P f Q sz N fd.type) (ho : fd.offset = off) (hs : P.cellsOf fd.type = sz) : OfF P [fd] f Q sz off N := fun H enc w base sp held n cs hn hy hl => by
  obtain ⟨y, hy⟩ := hy fd (List.mem_singleton.2 rfl)
  obtain ⟨a, ha, hla, hq⟩ := h _ _ _ _ _ _ _ _ _ hn hy
  rw [ho, List.take_of_length_le (by rw [List.length_drop, hs]; omega)] at ha hla
  exact ⟨a, ha, hla, hq⟩
theorem ofF_cons {f : α → List Value} {g : β → List Value} {Q : World → α → Prop} {Q2 : World → β → Prop} {s1 s2 : Nat} {fd : Field} {fs : List Field} {off : Nat} (h : Of P f Q s1 N fd.type) (ho : fd.offset = off) (hs : P.cellsOf fd.type = s1) (h2 : OfF P fs g Q2 s2 (off + s1) N) :
    OfF P (fd :: fs) (fun x : α × β => f x.1 ++ g x.2) (fun w x => Q w x.1 ∧ Q2 w x.2) (s1 + s2) off N := fun H enc w base sp held n cs hn hy hl => by
  obtain ⟨y, hy1⟩ := hy fd List.mem_cons_self
  obtain ⟨a, ha, _, hq⟩ := h _ _ _ _ _ _ _ _ _ hn hy1
  obtain ⟨b, hb, _, hq2⟩ := h2 H enc w base sp held n cs hn (fun f hf => hy f (List.mem_cons_of_mem _ hf)) (by omega)
  rw [ho, hs] at ha
  refine ⟨(a, b), ?_, by rw [List.length_drop]; omega, hq, hq2⟩
  show cs.drop off = f a ++ g b
  rw [← ha, ← hb, ← List.drop_drop, List.take_append_drop]
theorem of_struct {f : α → List Value} {Q : World → α → Prop} {sz : Nat} {fs : Array Field} (ht : P.underlying t = some (.struct fs)) (hs : P.cellsOf t = sz) (h : OfF P fs.toList f Q sz 0 N) : Of P f Q sz (N + 1) t := fun H enc w base sp held n cs x hn hx => by
  obtain ⟨xs, m, e, _, hl, hlen, hf⟩ := DataW.trod_struct ht hx
  have := h H enc w base sp held m cs (by omega) (fun f hf' => by
    obtain ⟨i, hi⟩ := List.mem_iff_getElem?.1 hf'
    have hi' : fs[i]? = some f := by simpa using hi
    have := hf i f hi'
    have hlt : i < xs.length := by
      rw [hlen]
      exact (Array.getElem?_eq_some_iff.1 hi').1
    rw [List.getElem?_eq_getElem hlt] at this
    exact ⟨_, this⟩) (by omega)
  simpa using this
theorem list_of {R : Nat → α → Prop} : ∀ len, (∀ i, i < len → ∃ y, R i y) → ∃ xs : List α, xs.length = len ∧ ∀ j p, xs[j]? = some p → R j p
  | 0, _ => ⟨[], rfl, fun j p h => by simp at h⟩
  | len + 1, h => by
    obtain ⟨xs, h1, h2⟩ := list_of len (fun i hi => h i (by omega))
    obtain ⟨y, hy⟩ := h len (by omega)
    refine ⟨xs ++ [y], by simp [h1], fun j p hp => ?_⟩
    by_cases hj : j < xs.length
    · rw [List.getElem?_append_left hj] at hp
      exact h2 j p hp
    · rw [List.getElem?_append_right (by omega)] at hp
      have hj2 : j - xs.length = 0 := by
        by_cases h0 : j - xs.length = 0
        · exact h0
        · rw [List.getElem?_eq_none (by simp; omega)] at hp
          cases hp
      have hj3 : j = len := by omega
      subst hj3
      rw [hj2] at hp
      simp at hp
      subst hp
      exact hy
theorem flat_len (f : α → List Value) (sz : Nat) : ∀ l : List α, (∀ a ∈ l, (f a).length = sz) → (l.flatMap f).length = l.length * sz
  | [], _ => by simp
  | a :: l, h => by
    rw [List.flatMap_cons, List.length_append, flat_len f sz l (fun x hx => h x (List.mem_cons_of_mem _ hx)), h a List.mem_cons_self, List.length_cons, Nat.succ_mul]; omega
theorem flat_get (f : α → List Value) (sz : Nat) : ∀ (l : List α) (i j : Nat) (a : α), (∀ a ∈ l, (f a).length = sz) → l[i]? = some a → j < sz → (l.flatMap f).getD (i * sz + j) undef = (f a).getD j undef
  | [], i, j, a, _, h, _ => by simp at h
  | x :: l, 0, j, a, h, ha, hj => by
    simp at ha
    subst ha
    rw [List.flatMap_cons, Nat.zero_mul, Nat.zero_add, List.getD_eq_getElem?_getD, List.getD_eq_getElem?_getD, List.getElem?_append_left (by rw [h x List.mem_cons_self]; exact hj)]
  | x :: l, i + 1, j, a, h, ha, hj => by
    have hx := h x List.mem_cons_self
    have e : (i + 1) * sz + j - (f x).length = i * sz + j := by rw [hx, Nat.succ_mul]; omega
    rw [List.flatMap_cons, List.getD_eq_getElem?_getD, List.getElem?_append_right (by rw [hx, Nat.succ_mul]; omega), ← List.getD_eq_getElem?_getD, e]
    exact flat_get f sz l i j a (fun y hy => h y (List.mem_cons_of_mem _ hy)) (by simpa using ha) hj
/-- The cells of one of a slice's elements. -/
theorem sl_at {w : World} {v : Value} {f : α → List Value} {sz : Nat} {zs : List α} (d : α) (hf : ∀ a, (f a).length = sz) (h : Sl w v sz zs.length (zs.flatMap f)) (h0 : 0 < sz) (i : Nat) (hi : i < zs.length) :
    ∃ b off cap, v = .slice (some ⟨b, off, none⟩) zs.length cap ∧ ∀ j, j < sz → w.cell? ⟨b, off + (i * sz + j), none⟩ = some ((f (zs.getD i d)).getD j undef) := by
  obtain ⟨hl, a, cap, rfl, h1, h2, hc⟩ := h
  have hlt : ∀ j, j < sz → i * sz + j < zs.length * sz := fun j hj => by
    have : (i + 1) * sz ≤ zs.length * sz := Nat.mul_le_mul_right _ hi
    rw [Nat.succ_mul] at this
    omega
  obtain ⟨b, off, rfl, _⟩ := hc (i * sz + 0) (hlt 0 h0)
  refine ⟨b, off, cap, rfl, fun j hj => ?_⟩
  obtain ⟨b', off', e1, e2⟩ := hc (i * sz + j) (hlt j hj)
  cases e1
  rw [e2, flat_get f sz zs i j (zs.getD i d) (fun a _ => hf a) (by rw [List.getD_eq_getElem?_getD, List.getElem?_eq_getElem hi]; rfl) hj]
theorem hd_of {f : α → List Value} {Q : World → α → Prop} {sz : Nat} {e : TypeId}
    (ht : P.underlying t = some (.slice e)) (hd : Of P f Q sz N e) (hs : P.cellsOf e = sz) (hsz : 0 < sz) : Of P Hd.cells (HQ f Q sz) 1 (N + 1) t := fun H enc w base sp held n cs x hn h => by
  rcases DataW.trod_slice ht h with ⟨rfl, _⟩ | ⟨a, len, cap, elems, rest, m, hm, rfl, _, _, hl, hc, hlen, hel, _⟩
  · exact ⟨(none, 0, 0), rfl, rfl, [], rfl, Sl.nil _ _, fun z hz => by cases hz⟩
  · have hE : ∀ i, i < len → ∃ y, ((f y).length = sz ∧ Q w y) ∧ ∀ j, j < sz → w.cell? (a.add (i * sz + j)) = some ((f y).getD j undef) := by
      intro i hi
      have h1 := hel i hi
      rw [List.getElem?_eq_getElem (by omega)] at h1
      simp only [Option.bind_eq_some_iff] at h1
      obtain ⟨c, hc1, hc2⟩ := h1
      obtain ⟨y, rfl, hk, hq⟩ := hd _ _ _ _ _ _ _ _ _ (by omega) hc2
      unfold World.cells? at hc1
      split at hc1
      · refine ⟨y, ⟨hk, hq⟩, fun j hj => ?_⟩
        have h3 := mapM_some_get hc1 j j (by rw [List.getElem?_eq_getElem (by simp; omega)]; simp)
        rw [List.getElem?_eq_getElem (by omega)] at h3
        have e1 : (a.add (i * sz)).add j = a.add (i * sz + j) := Addr.add_add _ _ _
        rw [hs, e1] at h3
        rw [h3, List.getD_eq_getElem?_getD, List.getElem?_eq_getElem (by omega)]; rfl
      · cases hc1
    obtain ⟨zs, hx1, hx2⟩ := list_of len hE
    subst hx1
    have hall : ∀ y ∈ zs, (f y).length = sz ∧ Q w y := fun y hy => by
      obtain ⟨i, hi⟩ := List.mem_iff_getElem?.1 hy
      exact (hx2 i y hi).1
    refine ⟨(some a, zs.length, cap), rfl, rfl, zs, rfl, ⟨flat_len f sz zs (fun y hy => (hall y hy).1), some a, cap, rfl, hl, hc, fun i hi => ?_⟩, fun z hz => (hall z hz).2⟩
    have hc' : ∀ i, i < zs.length * sz → w.cell? (a.add i) = some ((zs.flatMap f).getD i undef) := by
      intro i hi
      have hlt : i / sz < zs.length := Nat.div_lt_of_lt_mul (by rw [Nat.mul_comm]; exact hi)
      have hi' : i / sz * sz + i % sz = i := Nat.div_add_mod' i sz
      have hg := (hx2 (i / sz) _ (List.getElem?_eq_getElem hlt)).2 (i % sz) (Nat.mod_lt _ hsz)
      have hf := flat_get f sz zs (i / sz) (i % sz) _ (fun y hy => (hall y hy).1) (List.getElem?_eq_getElem hlt) (Nat.mod_lt _ hsz)
      rw [hi'] at hg hf
      rw [hg, hf]
    obtain ⟨b, off, spot⟩ := a
    have h0 := hc' 0 (Nat.lt_of_le_of_lt (Nat.zero_le _) hi)
    have hsp : spot = none := by
      have : (⟨b, off, spot⟩ : Addr).add 0 = ⟨b, off, spot⟩ := rfl
      rw [this] at h0
      unfold World.cell? at h0
      cases spot with
      | none => rfl
      | some s =>
        split at h0
        · simp at h0
        · cases h0
    subst hsp
    refine ⟨b, off, rfl, ?_⟩
    have := hc' i hi
    have e : (⟨b, off, none⟩ : Addr).add i = ⟨b, off + i, none⟩ := by unfold Addr.add; split <;> simp_all
    rw [e] at this
    exact this
theorem Of.le {f : α → List Value} {Q : World → α → Prop} {sz M : Nat} (h : ∀ N, Of P f Q sz N t) : Of P f Q sz M t := h M
end
end Go.Rq
end

section
/- What all guards over entries share: texts in rows. No condition. -/
set_option maxRecDepth 100000
namespace Go.Proofs.YtljeeehimcdmbaaGreatDoor.En
open Go.RowKit Go.Wd Go.Rq

def strC (s : ByteArray) : List Value := [.string s]
theorem HQ.bel {α : Type} {f : α → List Value} {Q : World → α → Prop} {sz : Nat} {w w' : World} {a : Hd} (hb : Bel w w') (hq : ∀ z, Q w z → Q w' z) (h : HQ f Q sz w a) : HQ f Q sz w' a := by
  obtain ⟨zs, h1, h2, h3⟩ := h
  exact ⟨zs, h1, h2.bel hb, fun z hz => hq z (h3 z hz)⟩
theorem Of.down {P : Program} {α : Type} {f : α → List Value} {Q : World → α → Prop} {sz N M : Nat} {t : TypeId} (h : Of P f Q sz N t) (hm : M ≤ N) : Of P f Q sz M t := fun H enc w base sp held n cs x hn hx => h H enc w base sp held n cs x (by omega) hx
theorem ofStrs (N : Nat) : Of Tryz.prog Hd.cells (HQ strC TT 1) 1 N 57 := Of.down (hd_of Tryz.underlying57 (of_string Tryz.underlying9 (N := N)) (by kernel_rfl) (by decide)) (by omega)
theorem getD_mem {α : Type} (l : List α) (d : α) (i : Nat) (h : i < l.length) : l.getD i d ∈ l := by
  rw [List.getD_eq_getElem?_getD, List.getElem?_eq_getElem h]; exact List.getElem_mem _
theorem Sl.max {w : World} {v : Value} {m n : Nat} {cs : List Value} (h : Sl w v m n cs) : n ≤ 9223372036854775807 := by
  obtain ⟨_, _, cap, _, h1, h2, _⟩ := h
  have hm : maxLen ≤ 9223372036854775807 := by decide
  omega
theorem str_at {w : World} {v : Value} {zs : List ByteArray} (h : Sl w v 1 zs.length (zs.flatMap strC)) (i : Nat) (hi : i < zs.length) :
    ∃ b off cap, v = .slice (some ⟨b, off, none⟩) zs.length cap ∧ w.cell? ⟨b, off + i, none⟩ = some (.string (zs.getD i ⟨#[]⟩)) := by
  obtain ⟨b, off, cap, h1, h2⟩ := sl_at (f := strC) ⟨#[]⟩ (fun _ => rfl) h (by decide) i hi
  refine ⟨b, off, cap, h1, ?_⟩
  have := h2 0 (by decide)
  rw [Nat.mul_one, Nat.add_zero] at this
  exact this
def Short (zs : List ByteArray) (c n : Nat) : Prop := ∀ j, j < n → (zs.getD j ⟨#[]⟩).size ≤ c
theorem Short.more {zs : List ByteArray} {c n : Nat} (h : Short zs c n) (hs : (zs.getD n ⟨#[]⟩).size ≤ c) : Short zs c (n + 1) := fun j hj => by
  by_cases e : j = n
  · subst e; exact hs
  · exact h j (by omega)
end Go.Proofs.YtljeeehimcdmbaaGreatDoor.En
end

section
/- The walks of toponymlaw18.Few and toponymlaw29.FewEntry: any entry is small, or not. No condition. -/
set_option maxRecDepth 100000
namespace Go.Proofs.YtljeeehimcdmbaaGreatDoor.En
open Go.RowKit Go.Wd Go.Rq
structure Pr where
  name : ByteArray
  value : ByteArray
def Pr.cells (a : Pr) : List Value := [.string a.name, .string a.value]
def Pr.none : Pr := ⟨⟨#[]⟩, ⟨#[]⟩⟩
def Hd.none : Hd := (Option.none, 0, 0)
theorem pr_at {w : World} {v : Value} {ks : List Pr} (h : Sl w v 2 ks.length (ks.flatMap Pr.cells)) (i : Nat) (hi : i < ks.length) :
    ∃ b off cap, v = .slice (some ⟨b, off, none⟩) ks.length cap ∧ w.cell? ⟨b, off + i * 2, none⟩ = some (.string (ks.getD i Pr.none).name) ∧ w.cell? ⟨b, off + i * 2 + 1, none⟩ = some (.string (ks.getD i Pr.none).value) := by
  obtain ⟨b, off, cap, h1, h2⟩ := sl_at (f := Pr.cells) Pr.none (fun _ => rfl) h (by decide) i hi
  simp only [← Nat.add_assoc] at h2
  exact ⟨b, off, cap, h1, h2 0 (by decide), h2 1 (by decide)⟩
theorem hd_at {w : World} {v : Value} {ks : List Hd} (h : Sl w v 1 ks.length (ks.flatMap Hd.cells)) (i : Nat) (hi : i < ks.length) :
    ∃ b off cap, v = .slice (some ⟨b, off, none⟩) ks.length cap ∧ w.cell? ⟨b, off + i, none⟩ = some (ks.getD i Hd.none).val := by
  obtain ⟨b, off, cap, h1, h2⟩ := sl_at (f := Hd.cells) Hd.none (fun _ => rfl) h (by decide) i hi
  refine ⟨b, off, cap, h1, ?_⟩
  have := h2 0 (by decide)
  rw [Nat.mul_one, Nat.add_zero] at this
  exact this
/-- The first so many pairs are short. -/
def PShort (ps : List Pr) (n : Nat) : Prop := ∀ j, j < n → (ps.getD j Pr.none).name.size ≤ 1000 ∧ (ps.getD j Pr.none).value.size ≤ 1000
theorem PShort.more {zs : List Pr} {n : Nat} (h : PShort zs n) (h1 : (zs.getD n Pr.none).name.size ≤ 1000) (h2 : (zs.getD n Pr.none).value.size ≤ 1000) : PShort zs (n + 1) := fun j hj => by
  by_cases e : j = n
  · subst e; exact ⟨h1, h2⟩
  · exact h j (by omega)
def Ok2 (S : Hd → List Pr) (z : Hd) : Prop := ¬ 10 < ((S z).length : Int) ∧ PShort (S z) (S z).length
def AllOk2 (S : Hd → List Pr) (zs : List Hd) (n : Nat) : Prop := ∀ j, j < n → Ok2 S (zs.getD j Hd.none)
theorem AllOk2.more {S : Hd → List Pr} {zs : List Hd} {n : Nat} (h : AllOk2 S zs n) (hs : Ok2 S (zs.getD n Hd.none)) : AllOk2 S zs (n + 1) := fun j hj => by
  by_cases e : j = n
  · subst e; exact hs
  · exact h j (by omega)
def Sees2 (W : World) (S : Hd → List Pr) (zs : List Hd) : Prop := ∀ z ∈ zs, z.2.1 = (S z).length ∧ Sl W z.val 2 (S z).length ((S z).flatMap Pr.cells)
set_option maxHeartbeats 3200000 in
theorem few18_walk (w : World) (S : Hd → List Pr) (aq : Option Addr) (ac : Nat) (zs : List Hd) (hz : Sl w (.slice aq zs.length ac) 1 zs.length (zs.flatMap Hd.cells)) (hS : Sees2 w S zs)
    (r : Bool) (hr0 : 10 < (zs.length : Int) → r = false) (hr1 : ∀ i, i < zs.length → ¬ Ok2 S (zs.getD i Hd.none) → r = false) (hr4 : ¬ 10 < (zs.length : Int) → AllOk2 S zs zs.length → r = true) :
    Calls Tryz.prog 27 #[.slice aq zs.length ac] w fun e w' => e = .returned (.bool r) ∧ w' = w := by
  have R0 := Lib.hid hr0
  have R1 := Lib.hid hr1
  have R4 := Lib.hid hr4
  have HS := Lib.hid hS
  have Hz := Lib.hid hz
  clear hr0 hr1 hr4 hS hz
  go_enter Tryz.func27, Tryz.ntmps27
  by_cases h1 : 10 < (zs.length : Int)
  case pos =>
    obtain rfl := R0.out h1
    clear R0 R1 R4 HS Hz
    go_wp2
    go_ret
    exact ⟨rfl, rfl⟩
  have S4 := Lib.hid (R4.out h1)
  clear R0 R4
  go_wp2
  go_loopw [3] (fun i wr => ∃ k : Nat, k ≤ zs.length ∧ i = .int .i64 k ∧ AllOk2 S zs k ∧ w = wr) (fun i _ => zs.length - (intOf i).toNat)
  case atStart => exact ⟨0, Nat.zero_le _, rfl, fun j hj => absurd hj (Nat.not_lt_zero _), rfl⟩
  case round =>
    obtain ⟨k, hk, rfl, hall, rfl⟩ := hrel
    by_cases hlt : k < zs.length
    · obtain ⟨b, off, cap', e, z1⟩ := hd_at Hz.out k hlt
      cases e
      have hs := HS.out _ (getD_mem zs Hd.none k hlt)
      have HA := Lib.hid fun h => hall.more h
      have HN := Lib.hid (R1.out k hlt)
      clear hall Hz HS R1 S4
      generalize zs.getD k Hd.none = z at *
      obtain ⟨zq, zl, zc⟩ := z
      obtain ⟨hs1, hs2⟩ := hs
      have ol : Ok2 S (zq, zl, zc) = (¬ 10 < ((S (zq, zl, zc)).length : Int) ∧ PShort (S (zq, zl, zc)) (S (zq, zl, zc)).length) := rfl
      rw [ol] at HA HN
      clear ol
      generalize S (zq, zl, zc) = ss at *
      obtain rfl : zl = ss.length := hs1
      have hs2 : Sl w (.slice zq ss.length zc) 2 ss.length (ss.flatMap Pr.cells) := hs2
      dsimp only [Hd.val] at z1
      have Hs := Lib.hid hs2
      clear hs2
      by_cases h2 : 10 < (ss.length : Int)
      case pos =>
        obtain rfl := HN.out fun h => h.1 h2
        clear HA HN Hs
        go_wp2
        go_ret
        exact ⟨rfl, rfl⟩
      have HN2 := Lib.hid fun (h : ¬ PShort ss ss.length) => HN.out fun k => h k.2
      have HA2 := Lib.hid fun (h : PShort ss ss.length) => HA.out ⟨h2, h⟩
      clear HN HA
      go_wp2
      go_loopw [4] (fun i wr => ∃ k : Nat, k ≤ ss.length ∧ i = .int .i64 k ∧ PShort ss k ∧ w = wr) (fun i _ => ss.length - (intOf i).toNat)
      case atStart => exact ⟨0, Nat.zero_le _, rfl, fun j hj => absurd hj (Nat.not_lt_zero _), rfl⟩
      case round =>
        obtain ⟨m, hm, rfl, hsh, rfl⟩ := hrel
        by_cases hlt2 : m < ss.length
        · have hsh := Lib.hid hsh
          obtain ⟨b2, off2, cap2, e, y0, y1⟩ := pr_at Hs.out m hlt2
          cases e
          have HB := Lib.hid fun h h' => hsh.out.more h h'
          have HM := Lib.hid fun (h : ¬ ((ss.getD m Pr.none).name.size ≤ 1000 ∧ (ss.getD m Pr.none).value.size ≤ 1000)) => HN2.out fun (k : PShort ss ss.length) => h (k m hlt2)
          clear hsh Hs HA2 HN2
          generalize ss.getD m Pr.none = y at *
          obtain ⟨yn, yv⟩ := y
          dsimp only at y0 y1 HB HM
          by_cases h5 : 1000 < (yn.size : Int)
          case pos =>
            obtain rfl := HM.out (by omega)
            clear HB HM
            go_wp2
            go_ret
            exact ⟨rfl, rfl⟩
          by_cases h6 : 1000 < (yv.size : Int)
          case pos =>
            obtain rfl := HM.out (by omega)
            clear HB HM
            go_wp2
            go_ret
            exact ⟨rfl, rfl⟩
          have HB2 := Lib.hid (HB.out (by omega) (by omega))
          clear HM HB
          go_wp2
          go_roundw
          case rel => exact ⟨m + 1, by omega, by go_num, HB2.out, trivial⟩
          case measure => simp [intOf]; omega
        · have e : m = ss.length := by omega
          subst e
          have HA3 := Lib.hid (HA2.out hsh)
          clear HN2 HA2 Hs hsh
          go_wp2
          go_roundw
          case rel => exact ⟨k + 1, by omega, by go_num, HA3.out, trivial⟩
          case measure => simp [intOf]; omega
    · have e : k = zs.length := by omega
      subst e
      obtain rfl := S4.out hall
      clear S4 R1 HS Hz hall
      go_wp2
      go_ret
      exact ⟨rfl, rfl⟩
open Classical in
noncomputable def few18R (S : Hd → List Pr) (zs : List Hd) : Bool := decide (¬ 10 < (zs.length : Int) ∧ AllOk2 S zs zs.length)
open Classical in
theorem few18_any (w : World) (S : Hd → List Pr) (zs : List Hd) (v : Value) (hz : Sl w v 1 zs.length (zs.flatMap Hd.cells)) (hS : Sees2 w S zs) :
    Calls Tryz.prog 27 #[v] w fun e w' => e = .returned (.bool (few18R S zs)) ∧ w' = w := by
  obtain ⟨_, q, cap, rfl, _⟩ := id hz
  refine few18_walk w S q cap zs hz hS _ (fun h => ?_) (fun i hi h => ?_) (fun a b => ?_)
  · exact decide_eq_false fun k => k.1 h
  · exact decide_eq_false fun k => h (k.2 i hi)
  · exact decide_eq_true ⟨a, b⟩
end Go.Proofs.YtljeeehimcdmbaaGreatDoor.En
end

section
/- The walk of toponymlaw29.FewEntry: any entry is small, or not. No condition. -/
set_option maxRecDepth 100000
namespace Go.Proofs.YtljeeehimcdmbaaGreatDoor.En
open Go.RowKit Go.Wd Go.Rq
structure Vls where
  name : ByteArray
  vs : Hd
def Vls.cells (z : Vls) : List Value := [.string z.name, z.vs.val]
def Vls.none : Vls := ⟨⟨#[]⟩, (Option.none, 0, 0)⟩
theorem vls_at {w : World} {v : Value} {ks : List Vls} (h : Sl w v 2 ks.length (ks.flatMap Vls.cells)) (i : Nat) (hi : i < ks.length) :
    ∃ b off cap, v = .slice (some ⟨b, off, none⟩) ks.length cap ∧ w.cell? ⟨b, off + i * 2, none⟩ = some (.string (ks.getD i Vls.none).name) ∧ w.cell? ⟨b, off + i * 2 + 1, none⟩ = some (ks.getD i Vls.none).vs.val := by
  obtain ⟨b, off, cap, h1, h2⟩ := sl_at (f := Vls.cells) Vls.none (fun _ => rfl) h (by decide) i hi
  simp only [← Nat.add_assoc] at h2
  exact ⟨b, off, cap, h1, h2 0 (by decide), h2 1 (by decide)⟩
/-- One attribute is small, by what its values are. -/
def Ok3 (S : Vls → List ByteArray) (z : Vls) : Prop := ¬ 20 < ((S z).length : Int) ∧ ¬ 1000 < (z.name.size : Int) ∧ Short (S z) 150 (S z).length
def AllOk3 (S : Vls → List ByteArray) (zs : List Vls) (n : Nat) : Prop := ∀ j, j < n → Ok3 S (zs.getD j Vls.none)
theorem AllOk3.more {S : Vls → List ByteArray} {zs : List Vls} {n : Nat} (h : AllOk3 S zs n) (hs : Ok3 S (zs.getD n Vls.none)) : AllOk3 S zs (n + 1) := fun j hj => by
  by_cases e : j = n
  · subst e; exact hs
  · exact h j (by omega)
def Sees (W : World) (S : Vls → List ByteArray) (zs : List Vls) : Prop := ∀ z ∈ zs, z.vs.2.1 = (S z).length ∧ Sl W z.vs.val 1 (S z).length ((S z).flatMap strC)
set_option maxHeartbeats 3200000 in
theorem few29_walk (w : World) (S2 : Hd → List Pr) (S : Vls → List ByteArray) (nq aq : Option Addr) (nc ac : Nat) (ns : List Hd) (zs : List Vls) (hn : Sl w (.slice nq ns.length nc) 1 ns.length (ns.flatMap Hd.cells)) (hS2 : Sees2 w S2 ns)
    (hz : Sl w (.slice aq zs.length ac) 2 zs.length (zs.flatMap Vls.cells)) (hS : Sees w S zs)
    (r : Bool) (hr5 : few18R S2 ns = false → r = false) (hr0 : 30 < (zs.length : Int) → r = false) (hr1 : ∀ i, i < zs.length → ¬ Ok3 S (zs.getD i Vls.none) → r = false) (hr4 : few18R S2 ns = true → ¬ 30 < (zs.length : Int) → AllOk3 S zs zs.length → r = true) :
    Calls Tryz.prog 14 #[.agg #[.slice nq ns.length nc, .slice aq zs.length ac]] w fun e w' => e = .returned (.bool r) ∧ Bel w w' := by
  have hb0 := (Bel.refl w).alloc (.cells #[.slice nq ns.length nc, .slice aq zs.length ac] 42)
  have hnew := new_at w (.cells #[.slice nq ns.length nc, .slice aq zs.length ac] 42)
  have HF := Lib.hid (few18_any (w.alloc (.cells #[.slice nq ns.length nc, .slice aq zs.length ac] 42)) S2 ns _ (hn.bel hb0) (fun z hz => ⟨(hS2 z hz).1, (hS2 z hz).2.bel hb0⟩))
  have R5 := Lib.hid hr5
  have R0 := Lib.hid hr0
  have R1 := Lib.hid hr1
  have R4 := Lib.hid hr4
  have HS := Lib.hid (show Sees (w.alloc (.cells #[.slice nq ns.length nc, .slice aq zs.length ac] 42)) S zs from fun z hz => ⟨(hS z hz).1, (hS z hz).2.bel hb0⟩)
  have Hz := Lib.hid (hz.bel hb0)
  clear hr0 hr1 hr4 hr5 hS hz hn hS2
  go_enter Tryz.func14, Tryz.ntmps14
  go_upto_region 1 with fail
  have HB := Lib.hid hb0
  generalize w.alloc (.cells #[.slice nq ns.length nc, .slice aq zs.length ac] 42) = W0 at *
  have c0 : W0.cell? ⟨w.heap.size, 0, none⟩ = some (.slice nq ns.length nc) := cellk hnew 0 _ rfl
  have c1 : W0.cell? ⟨w.heap.size, 1, none⟩ = some (.slice aq zs.length ac) := cellk hnew 1 _ rfl
  generalize w.heap.size = P0 at *
  clear hnew hb0
  generalize few18R S2 ns = b at *
  go_wp2_with fail
  refine HF.out.mono ?_
  rintro e w' ⟨rfl, rfl⟩
  clear HF c0
  cases b with
  | false =>
    obtain rfl := R5.out rfl
    clear R5 R0 R1 R4 HS Hz
    go_wp2
    go_ret
    exact ⟨rfl, HB.out⟩
  | true =>
  by_cases h1 : 30 < (zs.length : Int)
  case pos =>
    obtain rfl := R0.out h1
    clear R5 R0 R1 R4 HS Hz
    go_wp2
    go_ret
    exact ⟨rfl, HB.out⟩
  have S4 := Lib.hid (R4.out rfl (by omega))
  clear R0 R4 R5
  go_wp2
  go_loopw [3] (fun i wr => ∃ k : Nat, k ≤ zs.length ∧ i = .int .i64 k ∧ AllOk3 S zs k ∧ w' = wr) (fun i _ => zs.length - (intOf i).toNat)
  case atStart => exact ⟨0, Nat.zero_le _, rfl, fun j hj => absurd hj (Nat.not_lt_zero _), rfl⟩
  case round =>
    obtain ⟨k, hk, rfl, hall, rfl⟩ := hrel
    by_cases hlt : k < zs.length
    · obtain ⟨b, off, cap', e, z0, z1⟩ := vls_at Hz.out k hlt
      cases e
      have hs := HS.out _ (getD_mem zs Vls.none k hlt)
      have HA := Lib.hid fun h => hall.more h
      have HN := Lib.hid (R1.out k hlt)
      clear hall Hz HS R1 S4
      generalize zs.getD k Vls.none = z at *
      obtain ⟨zn, ⟨zq, zl, zc⟩⟩ := z
      obtain ⟨hs1, hs2⟩ := hs
      have ol : Ok3 S ⟨zn, (zq, zl, zc)⟩ = (¬ 20 < ((S ⟨zn, (zq, zl, zc)⟩).length : Int) ∧ ¬ 1000 < (zn.size : Int) ∧ Short (S ⟨zn, (zq, zl, zc)⟩) 150 (S ⟨zn, (zq, zl, zc)⟩).length) := rfl
      rw [ol] at HA HN
      clear ol
      generalize S ⟨zn, (zq, zl, zc)⟩ = ss at *
      obtain rfl : zl = ss.length := hs1
      have hs2 : Sl w' (.slice zq ss.length zc) 1 ss.length (ss.flatMap strC) := hs2
      dsimp only [Hd.val] at z0 z1
      have Hs := Lib.hid hs2
      clear hs2
      by_cases h2 : 20 < (ss.length : Int)
      case pos =>
        obtain rfl := HN.out fun h => h.1 h2
        clear HA HN Hs
        go_wp2
        go_ret
        exact ⟨rfl, HB.out⟩
      by_cases h3 : 1000 < (zn.size : Int)
      case pos =>
        obtain rfl := HN.out fun h => h.2.1 h3
        clear HA HN Hs
        go_wp2
        go_ret
        exact ⟨rfl, HB.out⟩
      have HN2 := Lib.hid fun (h : ¬ Short ss 150 ss.length) => HN.out fun k => h k.2.2
      have HA2 := Lib.hid fun (h : Short ss 150 ss.length) => HA.out ⟨h2, h3, h⟩
      clear HN HA
      go_wp2
      go_loopw [4] (fun i wr => ∃ k : Nat, k ≤ ss.length ∧ i = .int .i64 k ∧ Short ss 150 k ∧ w' = wr) (fun i _ => ss.length - (intOf i).toNat)
      case atStart => exact ⟨0, Nat.zero_le _, rfl, fun j hj => absurd hj (Nat.not_lt_zero _), rfl⟩
      case round =>
        obtain ⟨m, hm, rfl, hsh, rfl⟩ := hrel
        by_cases hlt2 : m < ss.length
        · have hsh := Lib.hid hsh
          obtain ⟨b2, off2, cap2, e, y0⟩ := str_at Hs.out m hlt2
          cases e
          have HB1 := Lib.hid fun h => hsh.out.more h
          have HM := Lib.hid fun (h : ¬ (ss.getD m ⟨#[]⟩).size ≤ 150) => HN2.out fun (k : Short ss 150 ss.length) => h (k m hlt2)
          clear hsh Hs HA2 HN2
          generalize ss.getD m ⟨#[]⟩ = y at *
          by_cases h5 : 150 < (y.size : Int)
          case pos =>
            obtain rfl := HM.out (by omega)
            clear HB1 HM
            go_wp2
            go_ret
            exact ⟨rfl, HB.out⟩
          case neg =>
            have HB2 := Lib.hid (HB1.out (by omega))
            clear HM HB1
            go_wp2
            go_roundw
            case rel => exact ⟨m + 1, by omega, by go_num, HB2.out, trivial⟩
            case measure => simp [intOf]; omega
        · have e : m = ss.length := by omega
          subst e
          have HA3 := Lib.hid (HA2.out hsh)
          clear HN2 HA2 Hs hsh
          go_wp2
          go_roundw
          case rel => exact ⟨k + 1, by omega, by go_num, HA3.out, trivial⟩
          case measure => simp [intOf]; omega
    · have e : k = zs.length := by omega
      subst e
      obtain rfl := S4.out hall
      clear S4 R1 HS Hz hall
      go_wp2
      go_ret
      exact ⟨rfl, HB.out⟩
/-! The reading. -/
def VQ (w : World) (z : Vls) : Prop := HQ strC TT 1 w z.vs
def PQ2 (w : World) (z : Hd) : Prop := HQ Pr.cells TT 2 w z
theorem ofPr (N : Nat) : Of Tryz.prog Pr.cells TT 2 N 85 :=
  Of.down (of_map (f := fun x : ByteArray × ByteArray => [.string x.1] ++ [.string x.2]) (Q := fun w x => TT w x.1 ∧ TT w x.2) (fun a : ByteArray × ByteArray => ⟨⟨a.1, a.2⟩, rfl, fun w h => trivial⟩) (of_struct (N := N) Tryz.underlying85 (by kernel_rfl)
    (ofF_cons (of_string Tryz.underlying9) rfl (by kernel_rfl) (ofF_one (of_string Tryz.underlying9) rfl (by kernel_rfl))))) (Nat.le_succ N)
theorem ofRdn (N : Nat) : Of Tryz.prog Hd.cells PQ2 1 N 82 := Of.down (hd_of Tryz.underlying82 (ofPr N) (by kernel_rfl) (by decide)) (Nat.le_succ N)
theorem ofName (N : Nat) : Of Tryz.prog Hd.cells (HQ Hd.cells PQ2 1) 1 N 39 := Of.down (hd_of Tryz.underlying39 (ofRdn N) (by kernel_rfl) (by decide)) (Nat.le_succ N)
theorem ofVls (N : Nat) : Of Tryz.prog Vls.cells VQ 2 N 59 :=
  Of.down (of_map (f := fun x : ByteArray × Hd => [.string x.1] ++ Hd.cells x.2) (Q := fun w x => TT w x.1 ∧ HQ strC TT 1 w x.2) (fun a : ByteArray × Hd => ⟨⟨a.1, a.2⟩, rfl, fun w h => h.2⟩) (of_struct (N := N) Tryz.underlying59 (by kernel_rfl)
    (ofF_cons (of_string Tryz.underlying9) rfl (by kernel_rfl) (ofF_one (sz := 1) (f := Hd.cells) (Q := HQ strC TT 1) (ofStrs N) rfl (by kernel_rfl))))) (Nat.le_succ N)
theorem ofVs (N : Nat) : Of Tryz.prog Hd.cells (HQ Vls.cells VQ 2) 1 N 40 := Of.down (hd_of Tryz.underlying40 (ofVls N) (by kernel_rfl) (by decide)) (Nat.le_succ N)
/-- An entry's two words. -/
def Ent := Hd × Hd
def Ent.cells (e : Ent) : List Value := [e.1.val, e.2.val]
def Ent.val (e : Ent) : Value := .agg #[e.1.val, e.2.val]
def EQ (w : World) (e : Ent) : Prop := HQ Hd.cells PQ2 1 w e.1 ∧ HQ Vls.cells VQ 2 w e.2
theorem ofEnt (N : Nat) : Of Tryz.prog Ent.cells EQ 2 N 42 :=
  Of.down (of_map (f := fun x : Hd × Hd => Hd.cells x.1 ++ Hd.cells x.2) (Q := fun w x => HQ Hd.cells PQ2 1 w x.1 ∧ HQ Vls.cells VQ 2 w x.2) (fun a : Hd × Hd => ⟨a, rfl, fun w h => h⟩) (of_struct (N := N) Tryz.underlying42 (by kernel_rfl)
    (ofF_cons (s1 := 1) (f := Hd.cells) (Q := HQ Hd.cells PQ2 1) (ofName N) rfl (by kernel_rfl) (ofF_one (sz := 1) (f := Hd.cells) (Q := HQ Vls.cells VQ 2) (ofVs N) rfl (by kernel_rfl))))) (Nat.le_succ N)
open Classical in
noncomputable def behind (W : World) (z : Vls) : List ByteArray := if h : VQ W z then Classical.choose h else []
theorem behind_ok {W : World} {z : Vls} (h : VQ W z) : z.vs.2.1 = (behind W z).length ∧ Sl W z.vs.val 1 (behind W z).length ((behind W z).flatMap strC) := by
  have e : behind W z = Classical.choose h := dif_pos h
  rw [e]
  exact ⟨(Classical.choose_spec h).1, (Classical.choose_spec h).2.1⟩
open Classical in
noncomputable def behind2 (W : World) (z : Hd) : List Pr := if h : PQ2 W z then Classical.choose h else []
theorem behind2_ok {W : World} {z : Hd} (h : PQ2 W z) : z.2.1 = (behind2 W z).length ∧ Sl W z.val 2 (behind2 W z).length ((behind2 W z).flatMap Pr.cells) := by
  have e : behind2 W z = Classical.choose h := dif_pos h
  rw [e]
  exact ⟨(Classical.choose_spec h).1, (Classical.choose_spec h).2.1⟩
open Classical in
theorem few29_any (W : World) (e : Ent) (h : EQ W e) : ∃ B : Bool, ∀ w, Bel W w → Calls Tryz.prog 14 #[e.val] w fun en w' => en = .returned (.bool B) ∧ Bel w w' := by
  obtain ⟨⟨nq, nn, nc⟩, ⟨aq, an, ac⟩⟩ := e
  obtain ⟨⟨ns, en, hn, hnq⟩, ⟨zs, ez, hz, hzq⟩⟩ := h
  obtain rfl : nn = ns.length := en
  obtain rfl : an = zs.length := ez
  have hS2 : Sees2 W (behind2 W) ns := fun z hz => behind2_ok (hnq z hz)
  have hS : Sees W (behind W) zs := fun z hz => behind_ok (hzq z hz)
  generalize behind W = S at hS
  generalize behind2 W = S2 at hS2
  refine ⟨decide (few18R S2 ns = true ∧ ¬ 30 < (zs.length : Int) ∧ AllOk3 S zs zs.length), fun w hb => ?_⟩
  refine few29_walk w S2 S nq aq nc ac ns zs (hn.bel hb) (fun z hz => ⟨(hS2 z hz).1, (hS2 z hz).2.bel hb⟩) (hz.bel hb) (fun z hz => ⟨(hS z hz).1, (hS z hz).2.bel hb⟩) _ ?_ ?_ ?_ ?_
  · exact fun h => decide_eq_false fun k => by rw [h] at k; cases k.1
  · exact fun h => decide_eq_false fun k => k.2.1 h
  · exact fun i hi h => decide_eq_false fun k => h (k.2.2 i hi)
  · exact fun a b c => decide_eq_true ⟨a, b, c⟩
end Go.Proofs.YtljeeehimcdmbaaGreatDoor.En
end
