/- The walk of toponymref20.one. No condition. -/
import Derived.Test.YtljeeehimcdmbaaGreatDoorMGreatDoorAl1
import Derived.Deep.RegionHeld3
namespace Go.Proofs.YtljeeehimcdmbaaGreatDoor
open Go.RowKit Go.Wd Go.Dir Go.Shelf

theorem chain_end (l : List Attr) (k n : Nat) (b : Attr) (h : b.above.size = 0) : chain l (k + 1) b n = true := by
  unfold chain; rw [decide_eq_true h]; rfl
theorem chain_none (l : List Attr) (k n : Nat) (b : Attr) (h : ¬ b.above.size = 0) (h' : at? l b.above = none) : chain l (k + 1) b n = false := by
  unfold chain; rw [decide_eq_false h, h']; rfl
theorem chain_some (l : List Attr) (k n : Nat) (b c : Attr) (h : ¬ b.above.size = 0) (h' : at? l b.above = some c) : chain l (k + 1) b n = (decide (c.syn = b.syn) && decide (n ≤ l.length) && chain l k c (n + 1)) := by
  rw [chain, decide_eq_false h, h']; rfl

theorem drawn_set (b : World) (p : Addr) (u : Value) : (b.setCell p u).drawn = b.drawn := rfl
theorem drawn_set6 {n : Nat} {b : World} (h : n ≤ b.drawn) (k : Nat) (v0 v1 v2 v3 v4 v5 : Value) :
    n ≤ ((((((b.setCell ⟨k, 0, none⟩ v0).setCell ⟨k, 1, none⟩ v1).setCell ⟨k, 2, none⟩ v2).setCell ⟨k, 3, none⟩ v3).setCell ⟨k, 4, none⟩ v4).setCell ⟨k, 5, none⟩ v5).drawn := by
  rw [drawn_set, drawn_set, drawn_set, drawn_set, drawn_set, drawn_set]; exact h
theorem size_ne {s : ByteArray} (h : ¬ s.size = 0) : ¬ s = ⟨#[]⟩ := fun e => h (by rw [e]; rfl)

set_option maxHeartbeats 1600000 in
theorem one20_any (l : List Attr) (v : Value) (a : Attr) (w : World) (hs : Sl w v 6 l.length (attrCells l)) (hl : l.length < 1000000) (ha : shortA a) :
    Calls Tryz.prog 98 #[v, a.val] w fun e w' => e = .returned (.bool (oneR l a)) ∧ Bel w w' ∧ w.drawn ≤ w'.drawn := by
  have HA := fun nm w' (h : Bel w w') => Lib.hid (at_any l v nm w' (hs.bel h) hl)
  have HF := fun n r w' => Lib.hid (fits20_any n r w')
  have HW := fun w' => Lib.hid (word18_any a.name ha.1 w')
  obtain ⟨q, cap, rfl⟩ : ∃ q cap, v = .slice q l.length cap := by obtain ⟨_, q, cap, h, _⟩ := hs; exact ⟨q, cap, h⟩
  have Hs := Lib.hid hs
  clear hs
  obtain ⟨r, hr⟩ : ∃ r, r = oneR l a := ⟨_, rfl⟩
  rw [← hr]
  unfold oneR at hr
  unfold Attr.val
  have Hr := Lib.hid hr
  clear hr
  go_enter Tryz.func98, Tryz.ntmps98
  cases h1 : has a.syn a.rule with
  | false =>
    have HF1 := HF a.syn a.rule
    rw [h1] at HF1
    obtain rfl : r = false := by rw [Hr.out, h1]; rfl
    clear HF h1 Hr HW HA
    go_wp2_with (go_at_call 117; refine (HF1 _).out.mono ?_; rintro e w' ⟨rfl, rfl⟩)
    go_ret
    exact ⟨rfl, (Bel.refl w).alloc _, Nat.le_refl _⟩
  | true =>
  have HF1 := HF a.syn a.rule
  rw [h1] at HF1
  cases h2 : word a.name with
  | false =>
    rw [h2] at HW
    obtain rfl : r = false := by rw [Hr.out, h1, h2]; rfl
    clear HF h1 Hr HA h2
    go_wp2_with (first | (go_at_call 117; refine (HF1 _).out.mono ?_; rintro e w' ⟨rfl, rfl⟩) | (go_at_call 118; refine (HW _).out.mono ?_; rintro e w' ⟨rfl, rfl⟩))
    go_ret
    exact ⟨rfl, (Bel.refl w).alloc _, Nat.le_refl _⟩
  | true =>
  rw [h2] at HW
  have hr := Hr.out
  rw [h1, h2, Bool.true_and, Bool.true_and] at hr
  have Hr := Lib.hid hr
  clear hr h1 h2 HF
  go_wp2_with (first | (go_at_call 117; refine (HF1 _).out.mono ?_; rintro e w' ⟨rfl, rfl⟩) | (go_at_call 118; refine (HW _).out.mono ?_; rintro e w' ⟨rfl, rfl⟩))
  clear HF1 HW
  go_loopw [5] (fun i wr => ∃ (n : Nat) (b : Attr), n ≤ l.length + 1 ∧ i = .int .i64 n ∧ wr.heap[w.heap.size]? = some (.cells #[.string b.name, .string b.above, .int .i64 b.syn, .int .i64 b.rule, .bool b.single, .bool b.closed] 64) ∧ Bel w wr ∧ w.drawn ≤ wr.drawn ∧ r = chain l (l.length + 3 - n) b n) (fun i _ => l.length + 2 - (intOf i).toNat)
  case atStart => exact ⟨0, a, by omega, rfl, new_at w _, (Bel.refl w).alloc _, Nat.le_refl _, Hr.out⟩
  case round =>
    obtain ⟨n, b, hn, rfl, hb0, hb, hdr, hr⟩ := hrel
    have Hdr := Lib.hid hdr
    clear hdr
    clear Hr
    obtain ⟨K, hK⟩ : ∃ K, l.length + 3 - n = K + 1 := ⟨l.length + 2 - n, by omega⟩
    have HK := Lib.hid hK
    rw [hK] at hr
    clear hK
    have y0 : wr.cell? ⟨w.heap.size, 0, none⟩ = some (.string b.name) := cellk hb0 0 _ rfl
    have y1 : wr.cell? ⟨w.heap.size, 1, none⟩ = some (.string b.above) := cellk hb0 1 _ rfl
    have y2 : wr.cell? ⟨w.heap.size, 2, none⟩ = some (.int .i64 b.syn) := cellk hb0 2 _ rfl
    have f0 := fun i => freek hb0 i
    have Hb := Lib.hid hb
    have Hb0 := Lib.hid hb0
    clear hb hb0
    by_cases h0 : b.above.size = 0
    · obtain rfl : r = true := by rw [hr, chain_end l K n b h0]
      have e : b.above = ⟨#[]⟩ := by cases hba : b.above with | mk d => congr 1; exact Array.size_eq_zero_iff.1 (by rw [hba] at h0; exact h0)
      rw [e] at y1
      clear hr HA h0
      go_wp2
      go_ret
      exact ⟨rfl, Hb.out, Hdr.out⟩
    · obtain ⟨n1, n2, n3⟩ := ne_empty (size_ne h0)
      have H0 := Lib.hid h0
      clear h0
      have HAt := HA b.above wr Hb.out
      clear HA
      obtain ⟨ab, hab⟩ : ∃ ab, ab = b.above := ⟨_, rfl⟩
      rw [← hab] at n1 n2 n3 y1 HAt
      have Hab := Lib.hid hab
      clear hab
      have Hr := Lib.hid hr
      clear hr
      go_upto_region 6 with (go_at_call 74; refine HAt.out.mono ?_; rintro e w' ⟨i, rfl, hi, hw'⟩; subst hw')
      rcases hi with ⟨rfl, hnone⟩ | ⟨k, rfl, hk, hsome⟩
      · obtain rfl : r = false := by rw [Hr.out, chain_none l K n b H0.out (by rw [← Hab.out]; exact hnone)]
        clear Hr hnone HAt Hs
        go_quiet (fail)
        go_wp2
        go_ret
        exact ⟨rfl, Hb.out.drewN _, Nat.le_trans Hdr.out (Nat.le_add_right _ _)⟩
      · have hc := chain_some l K n b (l.getD k Attr.none) H0.out (by rw [← Hab.out]; exact hsome)
        obtain ⟨bb, off, cap', e, c0, c1, c2, c3, c4, c5⟩ := attr_at (Hs.out.bel Hb.out) k hk
        cases e
        have Hc := Lib.hid hc
        clear hc hsome HAt
        generalize l.getD k Attr.none = c at *
        have i0 : (0 : Int) ≤ (k : Int) := Int.natCast_nonneg _
        have i1 : (k : Int) < (l.length : Int) := by omega
        have i2 : ¬ (k : Int) < 0 := by omega
        have H2 := Lib.hid H0.out
        by_cases hy : c.syn = b.syn
        · by_cases hn' : n ≤ l.length
          · have hr := Hr.out
            rw [Hc.out, decide_eq_true hy, decide_eq_true hn', Bool.true_and, Bool.true_and] at hr
            have Hr' := Lib.hid hr
            have j1 : (n : Int) ≤ (l.length : Int) := by omega
            rw [← hy] at y2
            clear hr Hr Hc Hs hy
            go_quiet (fail)
            have d0 : (w'.drewN nq).cell? ⟨bb, off + k * 6, none⟩ = some (.string c.name) := c0
            have d1 : (w'.drewN nq).cell? ⟨bb, off + k * 6 + 1, none⟩ = some (.string c.above) := c1
            have d2 : (w'.drewN nq).cell? ⟨bb, off + k * 6 + 2, none⟩ = some (.int .i64 c.syn) := c2
            have d3 : (w'.drewN nq).cell? ⟨bb, off + k * 6 + 3, none⟩ = some (.int .i64 c.rule) := c3
            have d4 : (w'.drewN nq).cell? ⟨bb, off + k * 6 + 4, none⟩ = some (.bool c.single) := c4
            have d5 : (w'.drewN nq).cell? ⟨bb, off + k * 6 + 5, none⟩ = some (.bool c.closed) := c5
            have hB : (w'.drewN nq).heap[w.heap.size]? = some (.cells #[.string b.name, .string b.above, .int .i64 b.syn, .int .i64 b.rule, .bool b.single, .bool b.closed] 64) := Hb0.out
            have hb2 : Bel w (w'.drewN nq) := Hb.out.drewN _
            have Hd2 := Lib.hid (show w.drawn ≤ (w'.drewN nq).drawn from Nat.le_trans Hdr.out (Nat.le_add_right _ _))
            have y0 : (w'.drewN nq).cell? ⟨w.heap.size, 0, none⟩ = some (.string b.name) := cellk hB 0 _ rfl
            have y1 : (w'.drewN nq).cell? ⟨w.heap.size, 1, none⟩ = some (.string b.above) := cellk hB 1 _ rfl
            have y2 : (w'.drewN nq).cell? ⟨w.heap.size, 2, none⟩ = some (.int .i64 b.syn) := cellk hB 2 _ rfl
            have y3 : (w'.drewN nq).cell? ⟨w.heap.size, 3, none⟩ = some (.int .i64 b.rule) := cellk hB 3 _ rfl
            have y4 : (w'.drewN nq).cell? ⟨w.heap.size, 4, none⟩ = some (.bool b.single) := cellk hB 4 _ rfl
            have y5 : (w'.drewN nq).cell? ⟨w.heap.size, 5, none⟩ = some (.bool b.closed) := cellk hB 5 _ rfl
            have f0 : ∀ i, (w'.drewN nq).frozen? ⟨w.heap.size, i, none⟩ = false := fun i => freek hB i
            clear c0 c1 c2 c3 c4 c5 Hb Hb0 Hdr
            generalize w'.drewN nq = W2 at *
            have HB := Lib.hid hB
            have Hb2 := Lib.hid hb2
            clear hB hb2
            go_wp2
            go_roundw
            case rel => exact ⟨n + 1, c, by omega, by go_num, at_set6 HB.out _ _ _ _ _ _, Hb2.out.set6 (Nat.le_refl _) _ _ _ _ _ _, drawn_set6 Hd2.out _ _ _ _ _ _ _, by
              rw [Hr'.out]
              have hk' := HK.out
              congr 1
              omega⟩
            case measure => simp [intOf]; omega
          · obtain rfl : r = false := by rw [Hr.out, Hc.out, decide_eq_false hn']; simp
            have j1 : (l.length : Int) < (n : Int) := by omega
            rw [← hy] at y2
            clear Hr Hc Hs hy hn'
            go_quiet (fail)
            go_wp2
            go_ret
            exact ⟨rfl, Hb.out.drewN _, Nat.le_trans Hdr.out (Nat.le_add_right _ _)⟩
        · obtain rfl : r = false := by rw [Hr.out, Hc.out, decide_eq_false hy]; rfl
          clear Hr Hc Hs
          have j1 : (c.syn == b.syn) = false := by rw [beq_eq_false_iff_ne]; exact hy
          go_quiet (fail)
          go_wp2
          go_ret
          exact ⟨rfl, Hb.out.drewN _, Nat.le_trans Hdr.out (Nat.le_add_right _ _)⟩
end Go.Proofs.YtljeeehimcdmbaaGreatDoor
