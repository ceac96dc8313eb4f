/- The walk of attrs.Check. No condition. -/
import Derived.Test.YtljeeehimcdmbaaGreatDoorMGreatDoorAt5
import Derived.Sort.QuietIn
import Derived.Test.YtljeeehimcdmbaaGreatDoorMGreatDoorDirLaw
namespace Go.Proofs.YtljeeehimcdmbaaGreatDoor
open Go.RowKit Go.Wd Go.Dir Go.Shelf
attribute [local go_sem] Oper.semAt_some

/-- What a range over a function leaves among an activation's deferred calls. -/
def mark (D : Nat) : Deferred := { target := .collected D, args := #[] }
/-- Marks that have not been taken. -/
def Marks (B : Nat) (Ds : List Nat) (w : World) : Prop := Ds.Nodup ∧ ∀ D ∈ Ds, B ≤ D ∧ w.heap[D]? = some (.deferred (some []))

theorem Marks.grown {B : Nat} {Ds : List Nat} {w w' : World} (h : Marks B Ds w) (hk : ∀ D, D ∈ Ds → D < w.heap.size → w'.heap[D]? = w.heap[D]?) : Marks B Ds w' :=
  ⟨h.1, fun D hD => ⟨(h.2 D hD).1, (hk D hD (Array.getElem?_eq_some_iff.1 (h.2 D hD).2).1).trans (h.2 D hD).2⟩⟩
theorem Marks.cons {B : Nat} {Ds : List Nat} {w w' : World} {D : Nat} (h : Marks B Ds w) (hD : w.heap.size ≤ D) (hB : B ≤ D) (hk : ∀ D', D' ∈ Ds → D' < w.heap.size → w'.heap[D']? = w.heap[D']?)
    (hn : w'.heap[D]? = some (.deferred (some []))) : Marks B (D :: Ds) w' := by
  refine ⟨List.nodup_cons.2 ⟨fun hm => ?_, h.1⟩, fun D' hD' => ?_⟩
  · have := (Array.getElem?_eq_some_iff.1 (h.2 D hm).2).1
    omega
  · rcases List.mem_cons.1 hD' with rfl | hm
    · exact ⟨hB, hn⟩
    · exact (h.grown hk).2 D' hm

theorem leaves_marks {F : Fence} {n : Nat} {P : Program} {fn : Func} {tmps : Array Value} {R : Ending → World → Prop} (B : Nat) : ∀ (Ds : List Nat) (W : World), Marks B Ds W → B ≤ W.heap.size →
    (∀ W', Below B W W' → LeavesIn F n P fn tmps R [] .returning W') → LeavesInM F n P fn tmps R (Ds.map mark) .returning W
  | [], W, _, _, h => h W (Below.refl _ _)
  | D :: Ds, W, hm, hB, h => by
    have hD := hm.2 D (by simp)
    have hn := List.nodup_cons.1 hm.1
    have hb : Below B W (W.putObj D (.deferred none)) := (Below.refl B W).grown (grownBy_putObj' _ D (.deferred none)) hB (fun k e => by cases e; exact hD.1)
    refine ⟨by simp, .inl ⟨D, W.putObj D (.deferred none), rfl, run_takeDeferred hD.2, ?_⟩⟩
    refine leaves_marks B Ds _ ⟨hn.2, fun D' hD' => ⟨(hm.2 D' (by simp [hD'])).1, ?_⟩⟩ (Nat.le_trans hB hb.size) (fun W' hW' => h W' (hb.trans hW'))
    exact (World.putObj_heap_other (fun e => hn.1 (by rw [← e]; exact hD'))).trans (hm.2 D' (by simp [hD'])).2

theorem Marks.bel {B : Nat} {Ds : List Nat} {w w' : World} (h : Marks B Ds w) (hb : Bel w w') : Marks B Ds w' := h.grown fun D _ hlt => hb.block D hlt
theorem check_bad (l : List Attr) (a : Attr) (h : a ∈ l) (hs : sane l a = false ∨ l.length < (up l (l.length + 1) a.name).length) : checkA l = false := by
  cases hc : checkA l with
  | false => rfl
  | true =>
    unfold checkA at hc
    simp only [Bool.and_eq_true, List.all_eq_true, decide_eq_true_eq] at hc
    have := hc.2 a h
    rcases hs with h1 | h1
    · rw [h1] at this; cases this.1
    · omega
theorem wrap_step (n : Nat) : wrap64 (wrap64 (n : Int) + 1) = wrap64 ((n : Int) + 1) := by unfold wrap64; omega
theorem wrap_small (n : Nat) (h : n ≤ 1000001) : wrap64 (n : Int) = n := by unfold wrap64; omega
theorem check_fall (l : List Attr) (j : Nat) (hj : j + 1 < l.length) (h : Op.bytesLess (l.getD j Attr.none).name.toList (l.getD (j + 1) Attr.none).name.toList = false) : checkA l = false := by
  have : rising (l.map Attr.name) = false := by
    cases hc : rising (l.map Attr.name) with
    | false => rfl
    | true =>
      have := (rises_iff l).1 hc j (j + 1) (by omega) hj
      rw [h] at this; cases this
  unfold checkA
  rw [this]; simp

def checkN (l : List Attr) : Int := if checkA l then 0 else 190

set_option maxRecDepth 100000 in
set_option maxHeartbeats 2000000 in
theorem check_any (l : List Attr) (v : Value) (w : World) (hs : Sl w v 6 l.length (attrCells l)) (hl : l.length < 1000000) (ha : ∀ a ∈ l, shortA a) :
    Calls Tryz.prog 43 #[v] w fun e W' => e = .returned (.int .i64 (checkN l)) ∧ Bel w W' := by
  obtain ⟨r, hr⟩ : ∃ r, r = checkN l := ⟨_, rfl⟩
  rw [← hr]
  obtain ⟨q, cap, rfl⟩ : ∃ q cap, v = .slice q l.length cap := by obtain ⟨_, q, cap, h, _⟩ := hs; exact ⟨q, cap, h⟩
  refine (callsIn_wide (n := 6)).1 ?_
  refine callsIn_of_wp_marks Tryz.func43 rfl trivial ?_ rfl
  simp only [Tryz.ntmps43, List.size_toArray, List.length_cons, List.length_nil, Nat.reduceAdd, Nat.reduceSub, Array.replicate_succ, Array.replicate_zero, List.push_toArray, List.append_toArray, List.nil_append, List.cons_append]
  by_cases h24 : 24 < l.length
  · have : checkA l = false := by unfold checkA; rw [decide_eq_false (by omega)]; rfl
    unfold checkN at hr
    rw [this] at hr
    subst hr
    gi_wp2
    exact ⟨_, results_tmp rfl _ _ _, rfl, Bel.refl _⟩
  gi_wp2
  gi_loopw [3] (fun i wr => ∃ k : Nat, i = .int .i64 k ∧ 1 ≤ k ∧ (k ≤ l.length ∨ k = 1) ∧ (∀ j, j + 1 < k → Op.bytesLess (l.getD j Attr.none).name.toList (l.getD (j + 1) Attr.none).name.toList = true) ∧ Bel w wr)
    (fun i wr => l.length - (intOf i).toNat)
  case atStart => exact ⟨1, rfl, by omega, .inr rfl, fun j hj => by omega, Bel.refl _⟩
  case round =>
    obtain ⟨k, rfl, h1, h2, h3, hb⟩ := hrel
    by_cases hlt : k < l.length
    · obtain ⟨j, rfl⟩ : ∃ j, k = j + 1 := ⟨k - 1, by omega⟩
      obtain ⟨b, off, cap', e, c0, -⟩ := attr_at (hs.bel hb) j (by omega)
      cases e
      obtain ⟨b', off', cap', e, d0, -⟩ := attr_at (hs.bel hb) (j + 1) hlt
      cases e
      have H3 := Lib.hid h3
      have Hb := Lib.hid hb
      clear h3 hb
      cases hless : Op.bytesLess (l.getD j Attr.none).name.toList (l.getD (j + 1) Attr.none).name.toList with
      | true =>
        have Hl := Lib.hid hless
        have Hg := Lib.hid hless
        clear hless
        generalize l.getD j Attr.none = A at c0 Hl
        generalize l.getD (j + 1) Attr.none = A' at d0 Hl
        have hless := Hl.out
        gi_wp2
        gi_quiet (fail)
        have hb2 := Hb.out.drewN nq
        generalize wr.drewN nq = w2 at *
        have Hb2 := Lib.hid hb2
        clear hb2
        gi_wp2
        go_roundw
        case rel =>
          refine ⟨j + 1 + 1, by simp, by omega, .inl (by omega), fun i hi => ?_, Hb2.out⟩
          by_cases hij : i = j
          · subst hij; exact Hg.out
          · exact H3.out i (by omega)
        case measure => simp [intOf]; omega
      | false =>
        have hf := check_fall l j hlt hless
        have hr0 : r = 190 := by rw [hr]; unfold checkN; rw [hf]; rfl
        subst hr0
        clear hf hr
        generalize l.getD j Attr.none = A at *
        generalize l.getD (j + 1) Attr.none = A' at *
        gi_wp2
        gi_quiet (fail)
        have hb2 := Hb.out.drewN nq
        generalize wr.drewN nq = w2 at *
        have Hb2 := Lib.hid hb2
        clear hb2
        gi_wp2
        exact ⟨_, results_tmp rfl _ _ _, rfl, Hb2.out⟩
    · have H3 := Lib.hid h3
      have Hb := Lib.hid hb
      clear h3 hb
      gi_wp2
      refine wpIn_loop (fun (a : Act) (wr : World) => ∃ (k : Nat) (Ds : List Nat) (u1 u2 u3 u4 u5 u6 u7 u8 u9 u10 u11 u12 u13 u14 u15 u16 u17 u18 u19 u20 u21 u22 u23 u24 u25 u26 u27 u31 u32 u33 u34 u35 u36 u37 u38 u39 u40 u41 u42 u43 u44 u45 u46 u47 u48 u49 : Value), a = { tmps := #[.slice q l.length cap, u1, u2, u3, u4, u5, u6, u7, u8, u9, u10, u11, u12, u13, u14, u15, u16, u17, u18, u19, u20, u21, u22, u23, u24, u25, u26, u27, .slice q l.length cap, .int .i64 l.length, .int .i64 k, u31, u32, u33, u34, u35, u36, u37, u38, u39, u40, u41, u42, u43, u44, u45, u46, u47, u48, u49], defers := Ds.map mark } ∧ k ≤ l.length ∧
        (∀ a ∈ l.take k, sane l a = true ∧ (up l (l.length + 1) a.name).length ≤ l.length) ∧ Bel w wr ∧ Marks w.heap.size Ds wr)
        (fun a _ => l.length - (intOf (a.tmps.getD 30 undef)).toNat) ⟨0, [], _, _, _, _, _, _, _, _, _, _, _, _, _, _, _, _, _, _, _, _, _, _, _, _, _, _, _, _, _, _, _, _, _, _, _, _, _, _, _, _, _, _, _, _, _, _, rfl, by omega, by simp, Hb.out, List.nodup_nil, by simp⟩ ?_
      rintro a wr ⟨k, Ds, u1, u2, u3, u4, u5, u6, u7, u8, u9, u10, u11, u12, u13, u14, u15, u16, u17, u18, u19, u20, u21, u22, u23, u24, u25, u26, u27, u31, u32, u33, u34, u35, u36, u37, u38, u39, u40, u41, u42, u43, u44, u45, u46, u47, u48, u49, rfl, hk, hall, hb, hm⟩
      by_cases hlt : k < l.length
      · obtain ⟨b, off, cap', e, c0, c1, c2, c3, c4, c5⟩ := attr_at (hs.bel hb) k hlt
        cases e
        have hA : l.getD k Attr.none ∈ l := by rw [List.getD_eq_getElem?_getD, List.getElem?_eq_getElem hlt]; exact List.getElem_mem _
        have hsA := ha _ hA
        have HS := fun w' (h : Bel w w') => Lib.hid (sane_any l _ (l.getD k Attr.none) w' (hs.bel h) hl hsA)
        have HU := fun nm w' => Lib.hid (up_any (some ⟨b, off, none⟩) l.length cap nm w')
        have Hhs := Lib.hid hs
        have Hall := Lib.hid hall
        have Hb2 := Lib.hid hb
        have Hm := Lib.hid hm
        have Hha := Lib.hid ha
        clear hall hb hm hs ha
        generalize hAA : l.getD k Attr.none = A at *
        have HAA := Lib.hid hAA
        clear hAA
        unfold Attr.val at HS
        cases hsn : sane l A with
        | false =>
          rw [hsn] at HS
          gi_wp2_with (refine ⟨trivial, ?_⟩; refine (callsIn_wide.2 (HS _ (Hb2.out.alloc _)).out).mono ?_; rintro e w' ⟨rfl, hb'⟩)
          have hr0 : r = 190 := by rw [hr]; unfold checkN; rw [check_bad l A hA (.inl hsn)]; rfl
          subst hr0
          have hB := (Bel.refl wr).alloc (.cells #[.string A.name, .string A.above, .int .i64 A.syn, .int .i64 A.rule, .bool A.single, .bool A.closed] 64) |>.trans hb'
          exact leaves_marks w.heap.size Ds _ (Hm.out.bel hB) (Nat.le_trans Hb2.out.size hB.size) (fun W' hW' => ⟨_, results_tmp rfl _ _ _, rfl, Below.trans (Hb2.out.trans hB) hW'⟩)
        | true =>
          rw [hsn] at HS
          gi_wp2_with (refine ⟨trivial, ?_⟩; refine (callsIn_wide.2 (HS _ (Hb2.out.alloc _)).out).mono ?_; rintro e w' ⟨rfl, hb'⟩; have hob := hb'.at (new_at wr _); have x0 := fun o => cellk (old_at hob o) 0 _ rfl)
          have hB := (Bel.refl wr).alloc (.cells #[.string A.name, .string A.above, .int .i64 A.syn, .int .i64 A.rule, .bool A.single, .bool A.closed] 64) |>.trans hb'
          have HB := Lib.hid hB
          clear hB hob x0 hb'
          gi_wp2_with (refine ⟨trivial, ?_⟩; refine (callsIn_wide.2 (HU _ _).out).mono ?_; rintro e w2 ⟨rfl, rfl⟩)
          obtain ⟨W0, hW0⟩ : ∃ W0, W0 = ((w'.alloc (.cells #[.int .i64 0] 3)).alloc (.cells #[.slice (some ⟨b, off, none⟩) l.length cap] 22)).alloc (.cells #[.string A.name] 9) := ⟨_, rfl⟩
          obtain ⟨B, hBq⟩ : ∃ B, B = w'.heap.size := ⟨_, rfl⟩
          have hsz : W0.heap.size = B + 3 := by rw [hW0, hBq]; simp
          have b0 : W0.heap[B]? = some (.cells #[.int .i64 0] 3) := by rw [hW0, hBq]; exact old_at (old_at (new_at w' _) _) _
          have b1 : W0.heap[B + 1]? = some (.cells #[.slice (some ⟨b, off, none⟩) l.length cap] 22) := by
            have := new_at (w'.alloc (.cells #[.int .i64 0] 3)) (.cells #[.slice (some ⟨b, off, none⟩) l.length cap] 22)
            rw [World.size_alloc] at this
            rw [hW0, hBq]; exact old_at this _
          have b2 : W0.heap[B + 2]? = some (.cells #[.string A.name] 9) := by
            have := new_at ((w'.alloc (.cells #[.int .i64 0] 3)).alloc (.cells #[.slice (some ⟨b, off, none⟩) l.length cap] 22)) (.cells #[.string A.name] 9)
            rw [World.size_alloc, World.size_alloc] at this
            rw [hW0, hBq]; exact this
          have hbel : Bel w' W0 := by rw [hW0]; exact (((Bel.refl w').alloc _).alloc _).alloc _
          have hs0 : Sl W0 (.slice (some ⟨b, off, none⟩) l.length cap) 6 l.length (attrCells l) := Hhs.out.bel ((Hb2.out.trans HB.out).trans hbel)
          have hbB : b < B := by rw [hBq]; have h := World.block_lt_of_cell? wr ⟨b, off + k * 6, none⟩ c0; have := HB.out.size; exact Nat.lt_of_lt_of_le h this
          simp only [← hW0, ← hBq]
          have HBq := Lib.hid hBq
          have Hmm := Lib.hid (Hm.out.bel HB.out)
          have Hbw := Lib.hid (Hb2.out.trans HB.out)
          clear hW0 hBq
          refine wpIn_rangeFunc_cell rfl (by omega) (gf := 76) (lb := #[.pointer (some ⟨B + 1, 0, none⟩), .pointer (some ⟨B + 1 + 1, 0, none⟩)]) rfl trivial (enters_of Tryz.func76 (by kernel_rfl) rfl)
            (kb := B + 2) (by omega) (Kp := fun j => j ≠ B ∧ j ≠ B + 3 ∧ j ≠ B + 4) (fun j hj => by rw [hsz]; exact ⟨hj.2.1, hj.2.2⟩)
            (up_seq 5 (B + 1) (B + 2) (by omega) _ ⟨by omega, by omega, by omega⟩ ⟨by omega, by omega, by omega⟩ (by omega) l _ (fun j hj _ => by
              obtain ⟨_, _, _, he⟩ := hj
              cases he
              exact ⟨⟨by omega, by omega, by omega⟩, by omega⟩) hl A.name W0 b1 b2 hs0) (fun _ => rfl)
            (fun pre W => W.heap[B]? = some (.cells #[.int .i64 (wrap64 pre.length)] 3) ∧ Bel w' W)
            (fun _ _ _ => False)
            ?oI ?oX ?kI ?kX ⟨by simpa [wrap64] using b0, hbel⟩
            (fun N _ _ => N ≠ B) (fun pre W o h => Nat.ne_of_gt (Array.getElem?_eq_some_iff.1 h.1).1) (fun N s A B' row h _ _ => h)
            (fun x a' _ => a' = { tmps := #[.slice (some ⟨b, off, none⟩) l.length cap, u1, u2, u3, u4, .pointer (some ⟨wr.heap.size, 0, none⟩), .pointer (some ⟨B, 0, none⟩), u7, u8, u9, u10, u11, u12, u13, u14, u15, u16, u17, u18, u19, u20, u21, u22, u23, u24, u25, u26, u27, .slice (some ⟨b, off, none⟩) l.length cap, .int .i64 l.length, .int .i64 k, .bool true, .pointer (some ⟨b, off + k * 6, none⟩), .agg #[.string A.name, .string A.above, .int .i64 A.syn, .int .i64 A.rule, .bool A.single, .bool A.closed], .slice (some ⟨b, off, none⟩) l.length cap, .agg #[.string A.name, .string A.above, .int .i64 A.syn, .int .i64 A.rule, .bool A.single, .bool A.closed], .bool true, .bool false, .slice (some ⟨b, off, none⟩) l.length cap, .pointer (some ⟨wr.heap.size, 0, none⟩), .string A.name, .func (.func 76) #[] #[.pointer (some ⟨B + 1, 0, none⟩), .pointer (some ⟨B + 1 + 1, 0, none⟩)], x.val, u43, u44, u45, u46, u47, u48, u49], defers := [] }) (fun x a' s A B' row h _ _ => h) ?assign ?body ?done ?stop
          case oI =>
            rintro pre X Y row ⟨h0, h1⟩ hg hr
            refine ⟨(hg.block B (Array.getElem?_eq_some_iff.1 h0).1 (fun e => ?_)).trans h0, h1.grown hg (fun j e => by have := (hr j e).1; rw [hsz] at this; rw [← HBq.out]; omega)⟩
            have := (hr _ e.symm).1; omega
          case oX => rintro c pre X Y row h; exact h.elim
          case kI =>
            rintro pre X Y ⟨h0, h1⟩ hg
            exact ⟨(hg.block B (Array.getElem?_eq_some_iff.1 h0).1 (by simp)).trans h0, h1.grown hg (fun j e => by cases e; rw [← HBq.out]; omega)⟩
          case kX => intro c pre X Y h; exact h.elim
          case assign =>
            intro lo pre x W K hi hK
            gi_wp2
            exact hK _ _ ⟨(KeepsOthers.refl _).from _, rfl, rfl, rfl, Nat.le_refl _, fun _ _ _ => rfl⟩ hi rfl
          case body =>
            rintro lo pre x a' N W - ⟨h0, h1⟩ hN hNlt rfl
            have c0 := cell_at h0
            have f0 := free_at h0
            have H0 := Lib.hid h0
            have H1 := Lib.hid h1
            clear h0 h1
            gi_wp2
            refine ⟨(KeepsOthers.setCell _ _ _).from _, fun j hj _ => Below.heap_setCell _ _ _ _ hj.1, Below.heap_setCell _ _ _ _ hN, ?_, H1.out.set (p := ⟨B, 0, none⟩) (Nat.le_of_eq HBq.out.symm) _⟩
            rw [set_at H0.out]
            simp [wrap_step]
          case done =>
            rintro D ys W hD hS ⟨h0, h1⟩ hK
            have hlen : ys.length ≤ l.length + 1 := by rw [hS]; exact up_len _ _ _
            have hwr : wrap64 (ys.length : Int) = ys.length := wrap_small _ (by omega)
            rw [hwr] at h0
            have c0 := cell_at h0
            have hm2 : Marks w.heap.size (D :: Ds) W := Marks.cons (w := w') Hmm.out (by rw [← HBq.out]; omega) (by have := Hbw.out.size; rw [← HBq.out] at this; omega) (fun D' _ hlt' => h1.block D' hlt') hK
            have HS := Lib.hid hS
            have H1 := Lib.hid (Hbw.out.trans h1)
            have Hm2 := Lib.hid hm2
            clear h0 h1 hS hm2
            by_cases hbig : l.length < ys.length
            · have hr0 : r = 190 := by rw [hr]; unfold checkN; rw [check_bad l A hA (.inr (by rw [← HS.out]; exact hbig))]; rfl
              subst hr0
              gi_wp2
              exact leaves_marks w.heap.size (D :: Ds) _ Hm2.out H1.out.size (fun W' hW' => ⟨_, results_tmp rfl _ _ _, rfl, Below.trans H1.out hW'⟩)
            · gi_wp2
              refine ⟨⟨k + 1, D :: Ds, _, _, _, _, _, _, _, _, _, _, _, _, _, _, _, _, _, _, _, _, _, _, _, _, _, _, _, _, _, _, _, _, _, _, _, _, _, _, _, _, _, _, _, _, _, _, rfl, by omega, fun a' ha' => ?_, H1.out, Hm2.out⟩, ?_⟩
              · rw [List.take_succ_eq_append_getElem hlt] at ha'
                rcases List.mem_append.1 ha' with h | h
                · exact Hall.out a' h
                · have he : a' = A := by
                    rw [← HAA.out, List.getD_eq_getElem?_getD, List.getElem?_eq_getElem hlt]
                    simpa using h
                  subst he
                  exact ⟨hsn, by rw [← HS.out]; exact Nat.le_of_not_lt hbig⟩
              · simp [intOf]; omega
          case stop => rintro D c pre W hD hS h hK; exact h.elim
      · have hkl : k = l.length := by omega
        subst hkl
        have hc : checkA l = true := by
          unfold checkA
          simp only [Bool.and_eq_true, List.all_eq_true, decide_eq_true_eq]
          refine ⟨⟨by omega, (rises_iff l).2 (rises_of l fun i hi => H3.out i (by omega))⟩, fun a ha' => ?_⟩
          exact hall a (by rw [List.take_length]; exact ha')
        have hr0 : r = 0 := by rw [hr]; unfold checkN; rw [hc]; rfl
        subst hr0
        have Hb2 := Lib.hid hb
        have Hm := Lib.hid hm
        clear hall hb hm hs ha hc hr
        gi_wp2
        exact leaves_marks w.heap.size Ds _ Hm.out Hb2.out.size (fun W' hW' => ⟨_, results_tmp rfl _ _ _, rfl, Below.trans Hb2.out hW'⟩)
end Go.Proofs.YtljeeehimcdmbaaGreatDoor
