/- The walk of toponymlaw29.FewEntry: any entry is small, or not. No condition. -/
import Derived.Test.YtklbbnlhhfadcaaGreatDoorMGreatDoorFw7
set_option maxRecDepth 100000
namespace Go.Proofs.YtklbbnlhhfadcaaGreatDoor
open Go.RowKit Go.Wd Go.Rq
structure Vls where
  name : ByteArray
  vs : Hd
def Vls.cells (z : Vls) : List Value := [.string z.name, z.vs.val]
def Vls.none : Vls := ⟨⟨#[]⟩, (Option.none, 0, 0)⟩
theorem vls_at {w : World} {v : Value} {ks : List Vls} (h : Sl w v 2 ks.length (ks.flatMap Vls.cells)) (i : Nat) (hi : i < ks.length) :
    ∃ b off cap, v = .slice (some ⟨b, off, none⟩) ks.length cap ∧ w.cell? ⟨b, off + i * 2, none⟩ = some (.string (ks.getD i Vls.none).name) ∧ w.cell? ⟨b, off + i * 2 + 1, none⟩ = some (ks.getD i Vls.none).vs.val := by
  obtain ⟨b, off, cap, h1, h2⟩ := sl_at (f := Vls.cells) Vls.none (fun _ => rfl) h (by decide) i hi
  simp only [← Nat.add_assoc] at h2
  exact ⟨b, off, cap, h1, h2 0 (by decide), h2 1 (by decide)⟩
/-- One attribute is small, by what its values are. -/
def Ok3 (S : Vls → List ByteArray) (z : Vls) : Prop := ¬ 20 < ((S z).length : Int) ∧ ¬ 1000 < (z.name.size : Int) ∧ Short (S z) 150 (S z).length
def AllOk3 (S : Vls → List ByteArray) (zs : List Vls) (n : Nat) : Prop := ∀ j, j < n → Ok3 S (zs.getD j Vls.none)
theorem AllOk3.more {S : Vls → List ByteArray} {zs : List Vls} {n : Nat} (h : AllOk3 S zs n) (hs : Ok3 S (zs.getD n Vls.none)) : AllOk3 S zs (n + 1) := fun j hj => by
  by_cases e : j = n
  · subst e; exact hs
  · exact h j (by omega)
def Sees (W : World) (S : Vls → List ByteArray) (zs : List Vls) : Prop := ∀ z ∈ zs, z.vs.2.1 = (S z).length ∧ Sl W z.vs.val 1 (S z).length ((S z).flatMap strC)
set_option maxHeartbeats 3200000 in
theorem few29_walk (w : World) (S2 : Hd → List Pr) (S : Vls → List ByteArray) (nq aq : Option Addr) (nc ac : Nat) (ns : List Hd) (zs : List Vls) (hn : Sl w (.slice nq ns.length nc) 1 ns.length (ns.flatMap Hd.cells)) (hS2 : Sees2 w S2 ns)
    (hz : Sl w (.slice aq zs.length ac) 2 zs.length (zs.flatMap Vls.cells)) (hS : Sees w S zs)
    (r : Bool) (hr5 : few18R S2 ns = false → r = false) (hr0 : 30 < (zs.length : Int) → r = false) (hr1 : ∀ i, i < zs.length → ¬ Ok3 S (zs.getD i Vls.none) → r = false) (hr4 : few18R S2 ns = true → ¬ 30 < (zs.length : Int) → AllOk3 S zs zs.length → r = true) :
    Calls Tryz.prog 32 #[.agg #[.slice nq ns.length nc, .slice aq zs.length ac]] w fun e w' => e = .returned (.bool r) ∧ Bel w w' := by
  have hb0 := (Bel.refl w).alloc (.cells #[.slice nq ns.length nc, .slice aq zs.length ac] 26)
  have hnew := new_at w (.cells #[.slice nq ns.length nc, .slice aq zs.length ac] 26)
  have HF := Lib.hid (few18_any (w.alloc (.cells #[.slice nq ns.length nc, .slice aq zs.length ac] 26)) S2 ns _ (hn.bel hb0) (fun z hz => ⟨(hS2 z hz).1, (hS2 z hz).2.bel hb0⟩))
  have R5 := Lib.hid hr5
  have R0 := Lib.hid hr0
  have R1 := Lib.hid hr1
  have R4 := Lib.hid hr4
  have HS := Lib.hid (show Sees (w.alloc (.cells #[.slice nq ns.length nc, .slice aq zs.length ac] 26)) S zs from fun z hz => ⟨(hS z hz).1, (hS z hz).2.bel hb0⟩)
  have Hz := Lib.hid (hz.bel hb0)
  clear hr0 hr1 hr4 hr5 hS hz hn hS2
  go_enter Tryz.func32, Tryz.ntmps32
  go_upto_region 1 with fail
  have HB := Lib.hid hb0
  generalize w.alloc (.cells #[.slice nq ns.length nc, .slice aq zs.length ac] 26) = W0 at *
  have c0 : W0.cell? ⟨w.heap.size, 0, none⟩ = some (.slice nq ns.length nc) := cellk hnew 0 _ rfl
  have c1 : W0.cell? ⟨w.heap.size, 1, none⟩ = some (.slice aq zs.length ac) := cellk hnew 1 _ rfl
  generalize w.heap.size = P0 at *
  clear hnew hb0
  generalize few18R S2 ns = b at *
  go_wp2_with fail
  refine HF.out.mono ?_
  rintro e w' ⟨rfl, rfl⟩
  clear HF c0
  cases b with
  | false =>
    obtain rfl := R5.out rfl
    clear R5 R0 R1 R4 HS Hz
    go_wp2
    go_ret
    exact ⟨rfl, HB.out⟩
  | true =>
  by_cases h1 : 30 < (zs.length : Int)
  case pos =>
    obtain rfl := R0.out h1
    clear R5 R0 R1 R4 HS Hz
    go_wp2
    go_ret
    exact ⟨rfl, HB.out⟩
  have S4 := Lib.hid (R4.out rfl (by omega))
  clear R0 R4 R5
  go_wp2
  go_loopw [3] (fun i wr => ∃ k : Nat, k ≤ zs.length ∧ i = .int .i64 k ∧ AllOk3 S zs k ∧ w' = wr) (fun i _ => zs.length - (intOf i).toNat)
  case atStart => exact ⟨0, Nat.zero_le _, rfl, fun j hj => absurd hj (Nat.not_lt_zero _), rfl⟩
  case round =>
    obtain ⟨k, hk, rfl, hall, rfl⟩ := hrel
    by_cases hlt : k < zs.length
    · obtain ⟨b, off, cap', e, z0, z1⟩ := vls_at Hz.out k hlt
      cases e
      have hs := HS.out _ (getD_mem zs Vls.none k hlt)
      have HA := Lib.hid fun h => hall.more h
      have HN := Lib.hid (R1.out k hlt)
      clear hall Hz HS R1 S4
      generalize zs.getD k Vls.none = z at *
      obtain ⟨zn, ⟨zq, zl, zc⟩⟩ := z
      obtain ⟨hs1, hs2⟩ := hs
      have ol : Ok3 S ⟨zn, (zq, zl, zc)⟩ = (¬ 20 < ((S ⟨zn, (zq, zl, zc)⟩).length : Int) ∧ ¬ 1000 < (zn.size : Int) ∧ Short (S ⟨zn, (zq, zl, zc)⟩) 150 (S ⟨zn, (zq, zl, zc)⟩).length) := rfl
      rw [ol] at HA HN
      clear ol
      generalize S ⟨zn, (zq, zl, zc)⟩ = ss at *
      obtain rfl : zl = ss.length := hs1
      have hs2 : Sl w' (.slice zq ss.length zc) 1 ss.length (ss.flatMap strC) := hs2
      dsimp only [Hd.val] at z0 z1
      have Hs := Lib.hid hs2
      clear hs2
      by_cases h2 : 20 < (ss.length : Int)
      case pos =>
        obtain rfl := HN.out fun h => h.1 h2
        clear HA HN Hs
        go_wp2
        go_ret
        exact ⟨rfl, HB.out⟩
      by_cases h3 : 1000 < (zn.size : Int)
      case pos =>
        obtain rfl := HN.out fun h => h.2.1 h3
        clear HA HN Hs
        go_wp2
        go_ret
        exact ⟨rfl, HB.out⟩
      have HN2 := Lib.hid fun (h : ¬ Short ss 150 ss.length) => HN.out fun k => h k.2.2
      have HA2 := Lib.hid fun (h : Short ss 150 ss.length) => HA.out ⟨h2, h3, h⟩
      clear HN HA
      go_wp2
      go_loopw [4] (fun i wr => ∃ k : Nat, k ≤ ss.length ∧ i = .int .i64 k ∧ Short ss 150 k ∧ w' = wr) (fun i _ => ss.length - (intOf i).toNat)
      case atStart => exact ⟨0, Nat.zero_le _, rfl, fun j hj => absurd hj (Nat.not_lt_zero _), rfl⟩
      case round =>
        obtain ⟨m, hm, rfl, hsh, rfl⟩ := hrel
        by_cases hlt2 : m < ss.length
        · have hsh := Lib.hid hsh
          obtain ⟨b2, off2, cap2, e, y0⟩ := str_at Hs.out m hlt2
          cases e
          have HB1 := Lib.hid fun h => hsh.out.more h
          have HM := Lib.hid fun (h : ¬ (ss.getD m ⟨#[]⟩).size ≤ 150) => HN2.out fun (k : Short ss 150 ss.length) => h (k m hlt2)
          clear hsh Hs HA2 HN2
          generalize ss.getD m ⟨#[]⟩ = y at *
          by_cases h5 : 150 < (y.size : Int)
          case pos =>
            obtain rfl := HM.out (by omega)
            clear HB1 HM
            go_wp2
            go_ret
            exact ⟨rfl, HB.out⟩
          case neg =>
            have HB2 := Lib.hid (HB1.out (by omega))
            clear HM HB1
            go_wp2
            go_roundw
            case rel => exact ⟨m + 1, by omega, by go_num, HB2.out, trivial⟩
            case measure => simp [intOf]; omega
        · have e : m = ss.length := by omega
          subst e
          have HA3 := Lib.hid (HA2.out hsh)
          clear HN2 HA2 Hs hsh
          go_wp2
          go_roundw
          case rel => exact ⟨k + 1, by omega, by go_num, HA3.out, trivial⟩
          case measure => simp [intOf]; omega
    · have e : k = zs.length := by omega
      subst e
      obtain rfl := S4.out hall
      clear S4 R1 HS Hz hall
      go_wp2
      go_ret
      exact ⟨rfl, HB.out⟩
/-! The reading. -/
def VQ (w : World) (z : Vls) : Prop := HQ strC TT 1 w z.vs
def PQ2 (w : World) (z : Hd) : Prop := HQ Pr.cells TT 2 w z
theorem ofPr (N : Nat) : Of Tryz.prog Pr.cells TT 2 N 99 :=
  Of.down (of_map (f := fun x : ByteArray × ByteArray => [.string x.1] ++ [.string x.2]) (Q := fun w x => TT w x.1 ∧ TT w x.2) (fun a : ByteArray × ByteArray => ⟨⟨a.1, a.2⟩, rfl, fun w h => trivial⟩) (of_struct (N := N) Tryz.underlying99 (by kernel_rfl)
    (ofF_cons (of_string Tryz.underlying9) rfl (by kernel_rfl) (ofF_one (of_string Tryz.underlying9) rfl (by kernel_rfl))))) (Nat.le_succ N)
theorem ofRdn (N : Nat) : Of Tryz.prog Hd.cells PQ2 1 N 101 := Of.down (hd_of Tryz.underlying101 (ofPr N) (by kernel_rfl) (by decide)) (Nat.le_succ N)
theorem ofName (N : Nat) : Of Tryz.prog Hd.cells (HQ Hd.cells PQ2 1) 1 N 23 := Of.down (hd_of Tryz.underlying23 (ofRdn N) (by kernel_rfl) (by decide)) (Nat.le_succ N)
theorem ofVls (N : Nat) : Of Tryz.prog Vls.cells VQ 2 N 103 :=
  Of.down (of_map (f := fun x : ByteArray × Hd => [.string x.1] ++ Hd.cells x.2) (Q := fun w x => TT w x.1 ∧ HQ strC TT 1 w x.2) (fun a : ByteArray × Hd => ⟨⟨a.1, a.2⟩, rfl, fun w h => h.2⟩) (of_struct (N := N) Tryz.underlying103 (by kernel_rfl)
    (ofF_cons (of_string Tryz.underlying9) rfl (by kernel_rfl) (ofF_one (sz := 1) (f := Hd.cells) (Q := HQ strC TT 1) (ofStrs N) rfl (by kernel_rfl))))) (Nat.le_succ N)
theorem ofVs (N : Nat) : Of Tryz.prog Hd.cells (HQ Vls.cells VQ 2) 1 N 24 := Of.down (hd_of Tryz.underlying24 (ofVls N) (by kernel_rfl) (by decide)) (Nat.le_succ N)
/-- An entry's two words. -/
def Ent := Hd × Hd
def Ent.cells (e : Ent) : List Value := [e.1.val, e.2.val]
def Ent.val (e : Ent) : Value := .agg #[e.1.val, e.2.val]
def EQ (w : World) (e : Ent) : Prop := HQ Hd.cells PQ2 1 w e.1 ∧ HQ Vls.cells VQ 2 w e.2
theorem ofEnt (N : Nat) : Of Tryz.prog Ent.cells EQ 2 N 26 :=
  Of.down (of_map (f := fun x : Hd × Hd => Hd.cells x.1 ++ Hd.cells x.2) (Q := fun w x => HQ Hd.cells PQ2 1 w x.1 ∧ HQ Vls.cells VQ 2 w x.2) (fun a : Hd × Hd => ⟨a, rfl, fun w h => h⟩) (of_struct (N := N) Tryz.underlying26 (by kernel_rfl)
    (ofF_cons (s1 := 1) (f := Hd.cells) (Q := HQ Hd.cells PQ2 1) (ofName N) rfl (by kernel_rfl) (ofF_one (sz := 1) (f := Hd.cells) (Q := HQ Vls.cells VQ 2) (ofVs N) rfl (by kernel_rfl))))) (Nat.le_succ N)
open Classical in
noncomputable def behind (W : World) (z : Vls) : List ByteArray := if h : VQ W z then Classical.choose h else []
theorem behind_ok {W : World} {z : Vls} (h : VQ W z) : z.vs.2.1 = (behind W z).length ∧ Sl W z.vs.val 1 (behind W z).length ((behind W z).flatMap strC) := by
  have e : behind W z = Classical.choose h := dif_pos h
  rw [e]
  exact ⟨(Classical.choose_spec h).1, (Classical.choose_spec h).2.1⟩
open Classical in
noncomputable def behind2 (W : World) (z : Hd) : List Pr := if h : PQ2 W z then Classical.choose h else []
theorem behind2_ok {W : World} {z : Hd} (h : PQ2 W z) : z.2.1 = (behind2 W z).length ∧ Sl W z.val 2 (behind2 W z).length ((behind2 W z).flatMap Pr.cells) := by
  have e : behind2 W z = Classical.choose h := dif_pos h
  rw [e]
  exact ⟨(Classical.choose_spec h).1, (Classical.choose_spec h).2.1⟩
open Classical in
theorem few29_any (W : World) (e : Ent) (h : EQ W e) : ∃ B : Bool, ∀ w, Bel W w → Calls Tryz.prog 32 #[e.val] w fun en w' => en = .returned (.bool B) ∧ Bel w w' := by
  obtain ⟨⟨nq, nn, nc⟩, ⟨aq, an, ac⟩⟩ := e
  obtain ⟨⟨ns, en, hn, hnq⟩, ⟨zs, ez, hz, hzq⟩⟩ := h
  obtain rfl : nn = ns.length := en
  obtain rfl : an = zs.length := ez
  have hS2 : Sees2 W (behind2 W) ns := fun z hz => behind2_ok (hnq z hz)
  have hS : Sees W (behind W) zs := fun z hz => behind_ok (hzq z hz)
  generalize behind W = S at hS
  generalize behind2 W = S2 at hS2
  refine ⟨decide (few18R S2 ns = true ∧ ¬ 30 < (zs.length : Int) ∧ AllOk3 S zs zs.length), fun w hb => ?_⟩
  refine few29_walk w S2 S nq aq nc ac ns zs (hn.bel hb) (fun z hz => ⟨(hS2 z hz).1, (hS2 z hz).2.bel hb⟩) (hz.bel hb) (fun z hz => ⟨(hS z hz).1, (hS z hz).2.bel hb⟩) _ ?_ ?_ ?_ ?_
  · exact fun h => decide_eq_false fun k => by rw [h] at k; cases k.1
  · exact fun h => decide_eq_false fun k => k.2.1 h
  · exact fun i hi h => decide_eq_false fun k => h (k.2.2 i hi)
  · exact fun a b c => decide_eq_true ⟨a, b, c⟩
end Go.Proofs.YtklbbnlhhfadcaaGreatDoor
