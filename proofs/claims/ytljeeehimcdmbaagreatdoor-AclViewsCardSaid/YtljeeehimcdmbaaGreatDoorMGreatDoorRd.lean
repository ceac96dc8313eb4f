/- What came in and reads as data: its cells, by its kind. No condition. -/
import Derived.Test.YtljeeehimcdmbaaGreatDoorMGreatDoorAc4
import Derived.ChangeArms
import Derived.WideShapes
namespace Go.Rd
open Go Go.RowKit Go.Wd
/-- What reads at the type t is f of something. -/
def Of (P : Program) {α : Type} (f : α → List Value) (sz : Nat) (t : TypeId) : Prop :=
  ∀ (H : Type) (enc : TypeId × Value → H) (w : World) (base : Nat) (sp : Nat → Bool) (held : Bool) (n : Nat) (cs : List Value) (x : DataW H × List MemPlace), DataW.trod enc P w base sp held n t cs = some x → ∃ a, cs = f a ∧ cs.length = sz
def OfF (P : Program) {α : Type} (fs : List Field) (f : α → List Value) (sz off : Nat) : Prop :=
  ∀ (H : Type) (enc : TypeId × Value → H) (w : World) (base : Nat) (sp : Nat → Bool) (held : Bool) (n : Nat) (cs : List Value),
    (∀ f ∈ fs, ∃ y : DataW H × List MemPlace, DataW.trod enc P w base sp held n f.type ((cs.drop f.offset).take (P.cellsOf f.type)) = some y) → cs.length = off + sz → ∃ a, cs.drop off = f a ∧ (cs.drop off).length = sz
section
variable {P : Program} {t : TypeId} {α β : Type}
theorem of_bool (ht : P.underlying t = some .bool) : Of P (fun b : Bool => [.bool b]) 1 t := fun _ _ _ _ _ _ _ _ _ h => by
  obtain ⟨b, rfl, _⟩ := DataW.trod_bool ht h
  exact ⟨b, rfl, rfl⟩
theorem of_int {k : IntKind} (ht : P.underlying t = some (.int k)) : Of P (fun b : Int => [.int k b]) 1 t := fun _ _ _ _ _ _ _ _ _ h => by
  obtain ⟨b, rfl, _⟩ := DataW.trod_int ht h
  exact ⟨b, rfl, rfl⟩
theorem of_string (ht : P.underlying t = some .string) : Of P (fun b : ByteArray => [.string b]) 1 t := fun _ _ _ _ _ _ _ _ _ h => by
  obtain ⟨b, rfl, _⟩ := DataW.trod_string ht h
  exact ⟨b, rfl, rfl⟩
theorem of_head {e : TypeId} (ht : P.underlying t = some (.slice e)) : Of P (fun b : Option Addr × Nat × Nat => [.slice b.1 b.2.1 b.2.2]) 1 t := fun _ _ _ _ _ _ _ _ _ h => by
  rcases DataW.trod_slice ht h with ⟨rfl, _⟩ | ⟨a, len, cap, elems, rest, m, _, rfl, _⟩
  · exact ⟨(none, 0, 0), rfl, rfl⟩
  · exact ⟨(some a, len, cap), rfl, rfl⟩
theorem of_map {f : α → List Value} {g : β → List Value} {sz : Nat} (hf : ∀ a, ∃ b, f a = g b) (h : Of P f sz t) : Of P g sz t := fun H enc w base sp held n cs x hx => by
  obtain ⟨a, ha, hl⟩ := h H enc w base sp held n cs x hx
  obtain ⟨b, hb⟩ := hf a
  exact ⟨b, by rw [ha, hb], hl⟩
theorem ofF_one {f : α → List Value} {sz : Nat} {fd : Field} {off : Nat} (h : Of P f sz fd.type) (ho : fd.offset = off) (hs : P.cellsOf fd.type = sz) : OfF P [fd] f sz off := fun H enc w base sp held n cs hy hl => by
  obtain ⟨y, hy⟩ := hy fd (List.mem_singleton.2 rfl)
  obtain ⟨a, ha, hla⟩ := h _ _ _ _ _ _ _ _ _ hy
  rw [ho, List.take_of_length_le (by rw [List.length_drop, hs]; omega)] at ha hla
  exact ⟨a, ha, hla⟩
theorem ofF_cons {f : α → List Value} {g : β → List Value} {s1 s2 : Nat} {fd : Field} {fs : List Field} {off : Nat} (h : Of P f s1 fd.type) (ho : fd.offset = off) (hs : P.cellsOf fd.type = s1) (h2 : OfF P fs g s2 (off + s1)) :
    OfF P (fd :: fs) (fun x : α × β => f x.1 ++ g x.2) (s1 + s2) off := fun H enc w base sp held n cs hy hl => by
  obtain ⟨y, hy1⟩ := hy fd List.mem_cons_self
  obtain ⟨a, ha, _⟩ := h _ _ _ _ _ _ _ _ _ hy1
  obtain ⟨b, hb, _⟩ := h2 H enc w base sp held n cs (fun f hf => hy f (List.mem_cons_of_mem _ hf)) (by omega)
  rw [ho, hs] at ha
  refine ⟨(a, b), ?_, by rw [List.length_drop]; omega⟩
  show cs.drop off = f a ++ g b
  rw [← ha, ← hb, ← List.drop_drop, List.take_append_drop]
theorem of_struct {f : α → List Value} {sz : Nat} {fs : Array Field} (ht : P.underlying t = some (.struct fs)) (hs : P.cellsOf t = sz) (h : OfF P fs.toList f sz 0) : Of P f sz t := fun H enc w base sp held n cs x hx => by
  obtain ⟨xs, m, _, _, hl, hlen, hf⟩ := DataW.trod_struct ht hx
  have := h H enc w base sp held m cs (fun f hf' => by
    obtain ⟨i, hi⟩ := List.mem_iff_getElem?.1 hf'
    have hi' : fs[i]? = some f := by simpa using hi
    have := hf i f hi'
    have hlt : i < xs.length := by
      rw [hlen]
      exact (Array.getElem?_eq_some_iff.1 hi').1
    rw [List.getElem?_eq_getElem hlt] at this
    exact ⟨_, this⟩) (by omega)
  simpa using this
theorem list_of {R : Nat → α → Prop} : ∀ len, (∀ i, i < len → ∃ y, R i y) → ∃ xs : List α, xs.length = len ∧ ∀ j p, xs[j]? = some p → R j p
  | 0, _ => ⟨[], rfl, fun j p h => by simp at h⟩
  | len + 1, h => by
    obtain ⟨xs, h1, h2⟩ := list_of len (fun i hi => h i (by omega))
    obtain ⟨y, hy⟩ := h len (by omega)
    refine ⟨xs ++ [y], by simp [h1], fun j p hp => ?_⟩
    by_cases hj : j < xs.length
    · rw [List.getElem?_append_left hj] at hp
      exact h2 j p hp
    · rw [List.getElem?_append_right (by omega)] at hp
      have hj2 : j - xs.length = 0 := by
        by_cases h0 : j - xs.length = 0
        · exact h0
        · rw [List.getElem?_eq_none (by simp; omega)] at hp
          cases hp
      have hj3 : j = len := by omega
      subst hj3
      rw [hj2] at hp
      simp at hp
      subst hp
      exact hy
theorem flat_len (f : α → List Value) (sz : Nat) : ∀ l : List α, (∀ a ∈ l, (f a).length = sz) → (l.flatMap f).length = l.length * sz
  | [], _ => by simp
  | a :: l, h => by
    rw [List.flatMap_cons, List.length_append, flat_len f sz l (fun x hx => h x (List.mem_cons_of_mem _ hx)), h a List.mem_cons_self, List.length_cons, Nat.succ_mul]; omega
theorem flat_get (f : α → List Value) (sz : Nat) : ∀ (l : List α) (i j : Nat) (a : α), (∀ a ∈ l, (f a).length = sz) → l[i]? = some a → j < sz → (l.flatMap f).getD (i * sz + j) undef = (f a).getD j undef
  | [], i, j, a, _, h, _ => by simp at h
  | x :: l, 0, j, a, h, ha, hj => by
    simp at ha
    subst ha
    rw [List.flatMap_cons, Nat.zero_mul, Nat.zero_add, List.getD_eq_getElem?_getD, List.getD_eq_getElem?_getD, List.getElem?_append_left (by rw [h x List.mem_cons_self]; exact hj)]
  | x :: l, i + 1, j, a, h, ha, hj => by
    have hx := h x List.mem_cons_self
    have e : (i + 1) * sz + j - (f x).length = i * sz + j := by rw [hx, Nat.succ_mul]; omega
    rw [List.flatMap_cons, List.getD_eq_getElem?_getD, List.getElem?_append_right (by rw [hx, Nat.succ_mul]; omega), ← List.getD_eq_getElem?_getD, e]
    exact flat_get f sz l i j a (fun y hy => h y (List.mem_cons_of_mem _ hy)) (by simpa using ha) hj

theorem sl_of {H : Type} {enc : TypeId × Value → H} {w : World} {base : Nat} {sp : Nat → Bool} {held : Bool} {n : Nat} {v : Value} {x : DataW H × List MemPlace} {f : α → List Value} {sz : Nat} {e : TypeId}
    (ht : P.underlying t = some (.slice e)) (hd : Of P f sz e) (hs : P.cellsOf e = sz) (hsz : 0 < sz) (h : DataW.trod enc P w base sp held n t [v] = some x) : ∃ zs : List α, Sl w v sz zs.length (zs.flatMap f) := by
  rcases DataW.trod_slice ht h with ⟨hv, _⟩ | ⟨a, len, cap, elems, rest, m, _, hv, _, _, hl, hc, hlen, hel, _⟩
  · obtain rfl : v = .slice none 0 0 := by simpa using hv
    exact ⟨[], Sl.nil _ _⟩
  · obtain rfl : v = .slice (some a) len cap := by simpa using hv
    have hE : ∀ i, i < len → ∃ y, (f y).length = sz ∧ ∀ j, j < sz → w.cell? (a.add (i * sz + j)) = some ((f y).getD j undef) := by
      intro i hi
      have h1 := hel i hi
      rw [List.getElem?_eq_getElem (by omega)] at h1
      simp only [Option.bind_eq_some_iff] at h1
      obtain ⟨c, hc1, hc2⟩ := h1
      obtain ⟨y, rfl, hk⟩ := hd _ _ _ _ _ _ _ _ _ hc2
      unfold World.cells? at hc1
      split at hc1
      · refine ⟨y, hk, fun j hj => ?_⟩
        have h3 := mapM_some_get hc1 j j (by rw [List.getElem?_eq_getElem (by simp; omega)]; simp)
        rw [List.getElem?_eq_getElem (by omega)] at h3
        have e1 : (a.add (i * sz)).add j = a.add (i * sz + j) := Addr.add_add _ _ _
        rw [hs, e1] at h3
        rw [h3, List.getD_eq_getElem?_getD, List.getElem?_eq_getElem (by omega)]; rfl
      · cases hc1
    obtain ⟨zs, hx1, hx2⟩ := list_of len hE
    subst hx1
    have hall : ∀ y ∈ zs, (f y).length = sz := fun y hy => by
      obtain ⟨i, hi⟩ := List.mem_iff_getElem?.1 hy
      exact (hx2 i y hi).1
    refine ⟨zs, flat_len f sz zs hall, some a, cap, rfl, hl, hc, fun i hi => ?_⟩
    have hlt : i / sz < zs.length := Nat.div_lt_of_lt_mul (by rw [Nat.mul_comm]; exact hi)
    have hmod : i % sz < sz := Nat.mod_lt _ hsz
    have hi' : i / sz * sz + i % sz = i := Nat.div_add_mod' i sz
    have hc' : ∀ i, i < zs.length * sz → w.cell? (a.add i) = some ((zs.flatMap f).getD i undef) := by
      intro i hi
      have hlt : i / sz < zs.length := Nat.div_lt_of_lt_mul (by rw [Nat.mul_comm]; exact hi)
      have hi' : i / sz * sz + i % sz = i := Nat.div_add_mod' i sz
      have hg := (hx2 (i / sz) _ (List.getElem?_eq_getElem hlt)).2 (i % sz) (Nat.mod_lt _ hsz)
      have hf := flat_get f sz zs (i / sz) (i % sz) _ hall (List.getElem?_eq_getElem hlt) (Nat.mod_lt _ hsz)
      rw [hi'] at hg hf
      rw [hg, hf]
    obtain ⟨b, off, spot⟩ := a
    have h0 := hc' 0 (Nat.lt_of_le_of_lt (Nat.zero_le _) hi)
    have hsp : spot = none := by
      have : (⟨b, off, spot⟩ : Addr).add 0 = ⟨b, off, spot⟩ := rfl
      rw [this] at h0
      unfold World.cell? at h0
      cases spot with
      | none => rfl
      | some s =>
        split at h0
        · simp at h0
        · cases h0
    subst hsp
    refine ⟨b, off, rfl, ?_⟩
    have := hc' i hi
    have e : (⟨b, off, none⟩ : Addr).add i = ⟨b, off + i, none⟩ := by unfold Addr.add; split <;> simp_all
    rw [e] at this
    exact this
end
end Go.Rd
