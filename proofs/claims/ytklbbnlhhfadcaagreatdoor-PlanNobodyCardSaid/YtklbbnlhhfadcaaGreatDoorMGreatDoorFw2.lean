/- The walk of toponymlaw24.Few: any filter is small, or not. No condition. -/
import Derived.Test.YtklbbnlhhfadcaaGreatDoorMGreatDoorFw1
import Derived.Deep.CutRange
import Derived.Deep.DeepCutAuto
namespace Go.Proofs.YtklbbnlhhfadcaaGreatDoor
open Go.RowKit Go.Wd Go.Rq

def Flt.val (f : Flt) : Value := .agg #[.int .i64 f.kind, .string f.name, .string f.value, .string f.ini, f.any.val, .string f.fin, .bool f.hi, .bool f.hf, .string f.rule, .bool f.dn, f.kids.val]
/-- The kids, one behind the other. -/
def kidsGo (G : Flt → Int → Int) : List Flt → Int → Int
  | [], l => l
  | k :: ks, l => if 0 ≤ l then kidsGo G ks (G k l) else l
theorem drop_at {α : Type} (l : List α) (d : α) (i : Nat) (h : i < l.length) : l.drop i = l.getD i d :: l.drop (i + 1) := by
  rw [List.getD_eq_getElem?_getD, List.getElem?_eq_getElem h]
  exact List.drop_eq_getElem_cons h
theorem getD_mem {α : Type} (l : List α) (d : α) (i : Nat) (h : i < l.length) : l.getD i d ∈ l := by
  rw [List.getD_eq_getElem?_getD, List.getElem?_eq_getElem h]; exact List.getElem_mem _
theorem kidsGo_stop (G : Flt → Int → Int) (ks : List Flt) (l : Int) (h : ¬ 0 ≤ l) : kidsGo G ks l = l := by
  cases ks with
  | nil => rfl
  | cons k ks => exact if_neg h
theorem kidsGo_le (G : Flt → Int → Int) : ∀ (ks : List Flt) (l : Int), (∀ k ∈ ks, ∀ l : Int, 0 ≤ l → l ≤ 150 → -1 ≤ G k l ∧ G k l ≤ l) → -1 ≤ l → l ≤ 150 → -1 ≤ kidsGo G ks l ∧ kidsGo G ks l ≤ l
  | [], l, _, h1, _ => ⟨h1, Int.le_refl _⟩
  | k :: ks, l, h, h1, h2 => by
    unfold kidsGo
    split
    · next h0 =>
      have a := h k List.mem_cons_self l h0 h2
      have b := kidsGo_le G ks (G k l) (fun k hk => h k (List.mem_cons_of_mem _ hk)) a.1 (by omega)
      omega
    · omega
theorem Sl.max {w : World} {v : Value} {m n : Nat} {cs : List Value} (h : Sl w v m n cs) : n ≤ 9223372036854775807 := by
  obtain ⟨_, _, cap, _, h1, h2, _⟩ := h
  have hm : maxLen ≤ 9223372036854775807 := by decide
  omega
theorem str_at {w : World} {v : Value} {zs : List ByteArray} (h : Sl w v 1 zs.length (zs.flatMap strC)) (i : Nat) (hi : i < zs.length) :
    ∃ b off cap, v = .slice (some ⟨b, off, none⟩) zs.length cap ∧ w.cell? ⟨b, off + i, none⟩ = some (.string (zs.getD i ⟨#[]⟩)) := by
  obtain ⟨b, off, cap, h1, h2⟩ := sl_at (f := strC) ⟨#[]⟩ (fun _ => rfl) h (by decide) i hi
  refine ⟨b, off, cap, h1, ?_⟩
  have := h2 0 (by decide)
  rw [Nat.mul_one, Nat.add_zero] at this
  exact this
theorem flt_at {w : World} {v : Value} {ks : List Flt} (h : Sl w v 11 ks.length (ks.flatMap Flt.cells)) (i : Nat) (hi : i < ks.length) :
    ∃ b off cap, v = .slice (some ⟨b, off, none⟩) ks.length cap ∧ w.cell? ⟨b, off + i * 11, none⟩ = some (.int .i64 (ks.getD i Flt.none).kind) ∧ w.cell? ⟨b, off + i * 11 + 1, none⟩ = some (.string (ks.getD i Flt.none).name) ∧
      w.cell? ⟨b, off + i * 11 + 2, none⟩ = some (.string (ks.getD i Flt.none).value) ∧ w.cell? ⟨b, off + i * 11 + 3, none⟩ = some (.string (ks.getD i Flt.none).ini) ∧ w.cell? ⟨b, off + i * 11 + 4, none⟩ = some (ks.getD i Flt.none).any.val ∧
      w.cell? ⟨b, off + i * 11 + 5, none⟩ = some (.string (ks.getD i Flt.none).fin) ∧ w.cell? ⟨b, off + i * 11 + 6, none⟩ = some (.bool (ks.getD i Flt.none).hi) ∧ w.cell? ⟨b, off + i * 11 + 7, none⟩ = some (.bool (ks.getD i Flt.none).hf) ∧
      w.cell? ⟨b, off + i * 11 + 8, none⟩ = some (.string (ks.getD i Flt.none).rule) ∧ w.cell? ⟨b, off + i * 11 + 9, none⟩ = some (.bool (ks.getD i Flt.none).dn) ∧ w.cell? ⟨b, off + i * 11 + 10, none⟩ = some (ks.getD i Flt.none).kids.val := by
  obtain ⟨b, off, cap, h1, h2⟩ := sl_at (f := Flt.cells) Flt.none (fun _ => rfl) h (by decide) i hi
  simp only [← Nat.add_assoc] at h2
  exact ⟨b, off, cap, h1, h2 0 (by decide), h2 1 (by decide), h2 2 (by decide), h2 3 (by decide), h2 4 (by decide), h2 5 (by decide), h2 6 (by decide), h2 7 (by decide), h2 8 (by decide), h2 9 (by decide), h2 10 (by decide)⟩

def sum5 (a b c d e : Nat) : Int := wrap64 (wrap64 (wrap64 (wrap64 ((a : Int) + b) + c) + d) + e)
/-- The first so many texts have 1000 bytes at most each. -/
def Short (zs : List ByteArray) (c n : Nat) : Prop := ∀ j, j < n → (zs.getD j ⟨#[]⟩).size ≤ c
theorem Short.more {zs : List ByteArray} {c n : Nat} (h : Short zs c n) (hs : (zs.getD n ⟨#[]⟩).size ≤ c) : Short zs c (n + 1) := fun j hj => by
  by_cases e : j = n
  · subst e; exact hs
  · exact h j (by omega)
set_option maxHeartbeats 3200000 in
theorem few24_walk (W : World) (kind : Int) (name value ini fin rule : ByteArray) (hi hf dn : Bool) (aq kq : Option Addr) (ac kc : Nat) (zs : List ByteArray) (ks : List Flt)
    (hz : Sl W (.slice aq zs.length ac) 1 zs.length (zs.flatMap strC)) (hk : Sl W (.slice kq ks.length kc) 11 ks.length (ks.flatMap Flt.cells)) (G : Flt → Int → Int)
    (HK : ∀ k ∈ ks, ∀ l : Int, 0 ≤ l → l ≤ 150 → (-1 ≤ G k l ∧ G k l ≤ l) ∧ ∀ w, Bel W w → Calls Tryz.prog 14 #[k.val, .int .i64 l] w fun e w' => e = .returned (.int .i64 (G k l)) ∧ Bel w w')
    (left r : Int) (h0 : 0 ≤ left) (h1 : left ≤ 150)
    (hr1 : 3000 < sum5 name.size value.size rule.size ini.size fin.size → r = -1) (hr2 : 10 < (zs.length : Int) → r = -1) (hr3 : ∀ i, i < zs.length → 1000 < ((zs.getD i ⟨#[]⟩).size : Int) → r = -1)
    (hr4 : ¬ 3000 < sum5 name.size value.size rule.size ini.size fin.size → ¬ 10 < (zs.length : Int) → Short zs 1000 zs.length → r = kidsGo G ks (left - 1)) (w : World) (hb : Bel W w) :
    Calls Tryz.prog 14 #[.agg #[.int .i64 kind, .string name, .string value, .string ini, .slice aq zs.length ac, .string fin, .bool hi, .bool hf, .string rule, .bool dn, .slice kq ks.length kc], .int .i64 left] w fun e w' => e = .returned (.int .i64 r) ∧ Bel w w' := by
  unfold sum5 at hr1 hr4
  have R1 := Lib.hid hr1
  have R2 := Lib.hid hr2
  have R3 := Lib.hid hr3
  have R4 := Lib.hid hr4
  have HK := Lib.hid HK
  clear hr1 hr2 hr3 hr4
  go_enter Tryz.func14, Tryz.ntmps14
  go_upto_region 1 with fail
  have hb0 := (Bel.refl w).alloc (.cells #[.int .i64 kind, .string name, .string value, .string ini, .slice aq zs.length ac, .string fin, .bool hi, .bool hf, .string rule, .bool dn, .slice kq ks.length kc] 34)
  have hn := new_at w (.cells #[.int .i64 kind, .string name, .string value, .string ini, .slice aq zs.length ac, .string fin, .bool hi, .bool hf, .string rule, .bool dn, .slice kq ks.length kc] 34)
  generalize w.alloc (.cells #[.int .i64 kind, .string name, .string value, .string ini, .slice aq zs.length ac, .string fin, .bool hi, .bool hf, .string rule, .bool dn, .slice kq ks.length kc] 34) = W0 at *
  have c1 : W0.cell? ⟨w.heap.size, 1, none⟩ = some (.string name) := cellk hn 1 _ rfl
  have c2 : W0.cell? ⟨w.heap.size, 2, none⟩ = some (.string value) := cellk hn 2 _ rfl
  have c3 : W0.cell? ⟨w.heap.size, 3, none⟩ = some (.string ini) := cellk hn 3 _ rfl
  have c4 : W0.cell? ⟨w.heap.size, 4, none⟩ = some (.slice aq zs.length ac) := cellk hn 4 _ rfl
  have c5 : W0.cell? ⟨w.heap.size, 5, none⟩ = some (.string fin) := cellk hn 5 _ rfl
  have c8 : W0.cell? ⟨w.heap.size, 8, none⟩ = some (.string rule) := cellk hn 8 _ rfl
  have c10 : W0.cell? ⟨w.heap.size, 10, none⟩ = some (.slice kq ks.length kc) := cellk hn 10 _ rfl
  have hmax := Sl.max hk
  have Hz := Lib.hid ((hz.bel hb).bel hb0)
  have Hk := Lib.hid ((hk.bel hb).bel hb0)
  have Hb0 := Lib.hid hb0
  have Hb := Lib.hid (hb.trans hb0)
  generalize w.heap.size = P0 at *
  clear hn hz hk hb hb0
  go_upto_region 3 with fail
  clear c1 c2 c3 c5 c8
  generalize wrap64 (wrap64 (wrap64 (wrap64 ((name.size : Int) + value.size) + rule.size) + ini.size) + fin.size) = N at *
  by_cases h1 : 3000 < N
  case pos =>
    obtain rfl := R1.out h1
    clear R1 R2 R3 R4 HK Hz Hk
    go_wp2
    go_ret
    exact ⟨rfl, Hb0.out⟩
  by_cases h2 : 10 < (zs.length : Int)
  case pos =>
    obtain rfl := R2.out h2
    clear R1 R2 R3 R4 HK Hz Hk
    go_wp2
    go_ret
    exact ⟨rfl, Hb0.out⟩
  have S4 := Lib.hid (R4.out h1 h2)
  clear R1 R2 R4
  go_wp2
  go_loopw [6] (fun i wr => ∃ k : Nat, k ≤ zs.length ∧ i = .int .i64 k ∧ Short zs 1000 k ∧ W0 = wr) (fun i _ => zs.length - (intOf i).toNat)
  case atStart => exact ⟨0, Nat.zero_le _, rfl, fun j hj => absurd hj (Nat.not_lt_zero _), rfl⟩
  case round =>
    obtain ⟨k, hk, rfl, hall, rfl⟩ := hrel
    by_cases hlt : k < zs.length
    · have hall := Lib.hid hall
      obtain ⟨b, off, cap', e, z0⟩ := str_at Hz.out k hlt
      cases e
      have R3' := R3.out k hlt
      have HA := Lib.hid fun h => hall.out.more h
      have R3' := Lib.hid R3'
      clear hall
      generalize zs.getD k ⟨#[]⟩ = z at *
      clear S4 HK Hz Hk R3
      by_cases h3 : 1000 < (z.size : Int)
      case neg =>
        go_wp2
        go_roundw
        case rel => exact ⟨k + 1, by omega, by go_num, HA.out (by omega), trivial⟩
        case measure => simp [intOf]; omega
      case pos =>
        obtain rfl := R3'.out h3
        clear R3' HA
        go_wp2
        go_ret
        exact ⟨rfl, Hb0.out⟩
    · have e : k = zs.length := by omega
      subst e
      have T4 := Lib.hid (S4.out hall)
      clear hall R3 Hz S4
      go_wp2
      go_loopw [1, 7] (fun l i wr => ∃ (x : Int) (k : Nat), k ≤ ks.length ∧ l = .int .i64 x ∧ i = .int .i64 k ∧ -1 ≤ x ∧ x ≤ 150 ∧ r = kidsGo G (ks.drop k) x ∧ Bel W0 wr) (fun _ i _ => ks.length - (intOf i).toNat)
      case atStart => exact ⟨left - 1, 0, Nat.zero_le _, rfl, rfl, by omega, by omega, T4.out, Bel.refl _⟩
      case round =>
        obtain ⟨x, k, hk, rfl, rfl, hx1, hx2, hr, hbr⟩ := hrel
        have c10 := hbr.cell c10
        have Hb0 := Lib.hid (Hb0.out.trans hbr)
        have HW := Lib.hid (Hb.out.trans hbr)
        have Hbr := Lib.hid hbr
        by_cases hlt : k < ks.length
        · by_cases hx : x < 0
          case pos =>
            rw [kidsGo_stop _ _ _ (by omega)] at hr
            subst hr
            clear T4 HK Hk
            go_wp2
            go_ret
            exact ⟨rfl, Hb0.out⟩
          case neg =>
            obtain ⟨b, off, cap', e, z0, z1, z2, z3, z4, z5, z6, z7, z8, z9, z10⟩ := flt_at (Hk.out.bel hbr) k hlt
            cases e
            rw [drop_at ks Flt.none k hlt] at hr
            have hr : r = kidsGo G (ks.drop (k + 1)) (G (ks.getD k Flt.none) x) := by
              rw [hr]; exact if_pos (by omega)
            obtain ⟨hg, hc⟩ := HK.out _ (getD_mem ks Flt.none k hlt) x (by omega) hx2
            have HC := Lib.hid hc
            have HR := Lib.hid hr
            clear hr hc T4 HK Hk hbr
            generalize ks.getD k Flt.none = f at *
            obtain ⟨fk, fname, fval, fini, ⟨faq, fan, fac⟩, ffin, fhi, fhf, frule, fdn, ⟨fkq, fkn, fkc⟩⟩ := f
            dsimp only [Flt.val, Hd.val] at z0 z1 z2 z3 z4 z5 z6 z7 z8 z9 z10 HC
            generalize G _ x = y at *
            obtain ⟨hg1, hg2⟩ := hg
            have hy : y ≤ 150 := by omega
            clear hg2
            go_wp2_with fail
            refine (HC.out _ HW.out).mono ?_
            rintro e w' ⟨rfl, hbw⟩
            have Hbw := Lib.hid (Hbr.out.trans hbw)
            clear hbw HC
            go_wp2
            go_roundw
            case rel => exact ⟨y, k + 1, by omega, rfl, by go_num, hg1, hy, HR.out, Hbw.out⟩
            case measure => simp [intOf]; omega
        · have e : k = ks.length := by omega
          subst e
          rw [List.drop_length] at hr
          obtain rfl : r = x := hr
          clear T4 HK Hk
          go_wp2
          go_ret
          exact ⟨rfl, Hb0.out⟩
theorem few24_any (W : World) : ∀ (n : Nat) (f : Flt), FOk n W f → ∀ left : Int, 0 ≤ left → left ≤ 150 → ∃ r : Int, (-1 ≤ r ∧ r ≤ left) ∧ ∀ w, Bel W w → Calls Tryz.prog 14 #[f.val, .int .i64 left] w fun e w' => e = .returned (.int .i64 r) ∧ Bel w w'
  | 0, _, h, _, _, _ => absurd h id
  | n + 1, f, h, left, h0, h1 => by
    obtain ⟨kind, name, value, ini, ⟨aq, an, ac⟩, fin, hi, hf, rule, dn, ⟨kq, kn, kc⟩⟩ := f
    obtain ⟨⟨zs, ez, hz, _⟩, ⟨ks, ek, hk, hall⟩⟩ := h
    obtain rfl : an = zs.length := ez
    obtain rfl : kn = ks.length := ek
    let G : Flt → Int → Int := fun k l => open Classical in if h : FOk n W k ∧ 0 ≤ l ∧ l ≤ 150 then Classical.choose (few24_any W n k h.1 l h.2.1 h.2.2) else 0
    have HK : ∀ k ∈ ks, ∀ l : Int, 0 ≤ l → l ≤ 150 → (-1 ≤ G k l ∧ G k l ≤ l) ∧ ∀ w, Bel W w → Calls Tryz.prog 14 #[k.val, .int .i64 l] w fun e w' => e = .returned (.int .i64 (G k l)) ∧ Bel w w' := fun k hk l a b => by
      have e : G k l = Classical.choose (few24_any W n k (hall k hk) l a b) := dif_pos ⟨hall k hk, a, b⟩
      rw [e]
      exact Classical.choose_spec (few24_any W n k (hall k hk) l a b)
    generalize G = G at HK
    by_cases hB : 3000 < sum5 name.size value.size rule.size ini.size fin.size ∨ 10 < (zs.length : Int) ∨ ¬ Short zs 1000 zs.length
    · refine ⟨-1, ⟨by omega, by omega⟩, fun w hb => ?_⟩
      exact few24_walk W kind name value ini fin rule hi hf dn aq kq ac kc zs ks hz hk G HK left (-1) h0 h1 (fun _ => rfl) (fun _ => rfl) (fun _ _ _ => rfl) (fun a b c => by
        rcases hB with h | h | h
        · exact absurd h a
        · exact absurd h b
        · exact absurd c h) w hb
    · have hS : Short zs 1000 zs.length := Classical.byContradiction fun h => hB (.inr (.inr h))
      have hle := kidsGo_le G ks (left - 1) (fun k hk l a b => (HK k hk l a b).1) (by omega) (by omega)
      refine ⟨kidsGo G ks (left - 1), ⟨hle.1, by omega⟩, fun w hb => ?_⟩
      exact few24_walk W kind name value ini fin rule hi hf dn aq kq ac kc zs ks hz hk G HK left _ h0 h1 (fun h => absurd (.inl h) hB) (fun h => absurd (.inr (.inl h)) hB) (fun i hi h => by
        have := hS i hi
        omega) (fun _ _ _ => rfl) w hb
end Go.Proofs.YtklbbnlhhfadcaaGreatDoor
