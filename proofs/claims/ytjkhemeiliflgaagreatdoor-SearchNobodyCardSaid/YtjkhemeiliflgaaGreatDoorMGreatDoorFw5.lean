/- The walk of toponymlaw26.Few: any request is small, or not. No condition. -/
import Derived.Test.YtjkhemeiliflgaaGreatDoorMGreatDoorFw4
namespace Go.Proofs.YtjkhemeiliflgaaGreatDoor
open Go.RowKit Go.Wd Go.Rq
/-- A change: its kind, and its attribute. -/
structure Chg where
  kind : Int
  v : Vls
def Chg.cells (c : Chg) : List Value := [.int .i64 c.kind, .string c.v.name, c.v.vs.val]
def Chg.none : Chg := ⟨0, Vls.none⟩
theorem chg_at {w : World} {v : Value} {ks : List Chg} (h : Sl w v 3 ks.length (ks.flatMap Chg.cells)) (i : Nat) (hi : i < ks.length) :
    ∃ b off cap, v = .slice (some ⟨b, off, none⟩) ks.length cap ∧ w.cell? ⟨b, off + i * 3 + 1, none⟩ = some (.string (ks.getD i Chg.none).v.name) ∧ w.cell? ⟨b, off + i * 3 + 2, none⟩ = some (ks.getD i Chg.none).v.vs.val := by
  obtain ⟨b, off, cap, h1, h2⟩ := sl_at (f := Chg.cells) Chg.none (fun _ => rfl) h (by decide) i hi
  simp only [← Nat.add_assoc] at h2
  exact ⟨b, off, cap, h1, h2 1 (by decide), h2 2 (by decide)⟩
def ChOk (S : Vls → List ByteArray) (cs : List Chg) (n : Nat) : Prop := ∀ j, j < n → few26R S [(cs.getD j Chg.none).v] = true
theorem ChOk.more {S : Vls → List ByteArray} {zs : List Chg} {n : Nat} (h : ChOk S zs n) (hs : few26R S [(zs.getD n Chg.none).v] = true) : ChOk S zs (n + 1) := fun j hj => by
  by_cases e : j = n
  · subst e; exact hs
  · exact h j (by omega)
theorem sl_one (w : World) (z : Vls) (t : TypeId) : Sl (w.alloc (.cells #[.string z.name, z.vs.val] t)) (.slice (some ⟨w.heap.size, 0, none⟩) 1 1) 2 1 ([z].flatMap Vls.cells) := by
  refine ⟨rfl, _, _, rfl, Nat.le_refl _, by decide, fun i hi => ⟨_, _, rfl, ?_⟩⟩
  have hn := new_at w (.cells #[.string z.name, z.vs.val] t)
  match i, hi with
  | 0, _ => exact cellk hn 0 _ rfl
  | 1, _ => exact cellk hn 1 _ rfl
set_option maxHeartbeats 6400000 in
theorem req26_walk (W : World) (S : Vls → List ByteArray) (id kind version method scope most target fk : Int) (name secret rdn above pn pv fname fval fini ffin frule : ByteArray) (types keep has fhi fhf fdn : Bool) (faq fkq aq cq vq : Option Addr) (fan fac fkn fkc ac cc vc : Nat)
    (ts : List ByteArray) (cs : List Chg) (vs : List Vls) (ha : Sl W (.slice aq ts.length ac) 1 ts.length (ts.flatMap strC)) (hc : Sl W (.slice cq cs.length cc) 3 cs.length (cs.flatMap Chg.cells)) (hv : Sl W (.slice vq vs.length vc) 2 vs.length (vs.flatMap Vls.cells))
    (hSv : Sees W S vs) (hSc : ∀ c ∈ cs, Sees W S [c.v]) (l r24 : Int) (hl : l = 150) (h24 : ∀ w, Bel W w → Calls Tryz.prog 32 #[.agg #[.int .i64 fk, .string fname, .string fval, .string fini, .slice faq fan fac, .string ffin, .bool fhi, .bool fhf, .string frule, .bool fdn, .slice fkq fkn fkc], .int .i64 l] w fun e w' => e = .returned (.int .i64 r24) ∧ Bel w w')
    (r : Bool) (hr1 : r24 < 0 → r = false) (hr2 : 40 < (ts.length : Int) → r = false) (hr3 : 20 < (cs.length : Int) → r = false) (hr4 : few26R S vs = false → r = false)
    (hr5 : ∀ i, i < ts.length → 1000 < ((ts.getD i ⟨#[]⟩).size : Int) → r = false) (hr6 : ∀ i, i < cs.length → few26R S [(cs.getD i Chg.none).v] = false → r = false)
    (hn1 : 5000 < (name.size : Int) → r = false) (hn2 : 5000 < (secret.size : Int) → r = false) (hn3 : 5000 < (rdn.size : Int) → r = false) (hn4 : 5000 < (above.size : Int) → r = false) (hn5 : 5000 < wrap64 ((pn.size : Int) + pv.size) → r = false)
    (hr7 : 0 ≤ r24 → (ts.length : Int) ≤ 40 → (cs.length : Int) ≤ 20 → few26R S vs = true → Short ts 1000 ts.length → ChOk S cs cs.length → (name.size : Int) ≤ 5000 → (secret.size : Int) ≤ 5000 → (rdn.size : Int) ≤ 5000 → (above.size : Int) ≤ 5000 → wrap64 ((pn.size : Int) + pv.size) ≤ 5000 → r = true)
    (w : World) (hb : Bel W w) :
    Calls Tryz.prog 10 #[.agg #[.int .i64 id, .int .i64 kind, .string name, .int .i64 version, .int .i64 method, .string secret, .int .i64 scope, .int .i64 most, .bool types, .int .i64 fk, .string fname, .string fval, .string fini, .slice faq fan fac, .string ffin, .bool fhi, .bool fhf, .string frule, .bool fdn, .slice fkq fkn fkc, .slice aq ts.length ac, .slice cq cs.length cc, .slice vq vs.length vc, .string rdn, .bool keep, .string above, .bool has, .string pn, .string pv, .int .i64 target]] w fun e w' => e = .returned (.bool r) ∧ Bel w w' := by
  subst hl
  have R1 := Lib.hid hr1
  have R2 := Lib.hid hr2
  have R3 := Lib.hid hr3
  have R4 := Lib.hid hr4
  have R5 := Lib.hid hr5
  have R6 := Lib.hid hr6
  have N1 := Lib.hid hn1
  have N2 := Lib.hid hn2
  have N3 := Lib.hid hn3
  have N4 := Lib.hid hn4
  have N5 := Lib.hid hn5
  have R7 := Lib.hid hr7
  have H24 := Lib.hid h24
  clear hr1 hr2 hr3 hr4 hr5 hr6 hr7 hn1 hn2 hn3 hn4 hn5 h24
  go_enter Tryz.func10, Tryz.ntmps10
  go_upto_region 1 with fail
  have hb0 := (Bel.refl w).alloc (.cells #[.int .i64 id, .int .i64 kind, .string name, .int .i64 version, .int .i64 method, .string secret, .int .i64 scope, .int .i64 most, .bool types, .int .i64 fk, .string fname, .string fval, .string fini, .slice faq fan fac, .string ffin, .bool fhi, .bool fhf, .string frule, .bool fdn, .slice fkq fkn fkc, .slice aq ts.length ac, .slice cq cs.length cc, .slice vq vs.length vc, .string rdn, .bool keep, .string above, .bool has, .string pn, .string pv, .int .i64 target] 33)
  have hn := new_at w (.cells #[.int .i64 id, .int .i64 kind, .string name, .int .i64 version, .int .i64 method, .string secret, .int .i64 scope, .int .i64 most, .bool types, .int .i64 fk, .string fname, .string fval, .string fini, .slice faq fan fac, .string ffin, .bool fhi, .bool fhf, .string frule, .bool fdn, .slice fkq fkn fkc, .slice aq ts.length ac, .slice cq cs.length cc, .slice vq vs.length vc, .string rdn, .bool keep, .string above, .bool has, .string pn, .string pv, .int .i64 target] 33)
  generalize w.alloc (.cells #[.int .i64 id, .int .i64 kind, .string name, .int .i64 version, .int .i64 method, .string secret, .int .i64 scope, .int .i64 most, .bool types, .int .i64 fk, .string fname, .string fval, .string fini, .slice faq fan fac, .string ffin, .bool fhi, .bool fhf, .string frule, .bool fdn, .slice fkq fkn fkc, .slice aq ts.length ac, .slice cq cs.length cc, .slice vq vs.length vc, .string rdn, .bool keep, .string above, .bool has, .string pn, .string pv, .int .i64 target] 33) = W0 at *
  have c2 : W0.cell? ⟨w.heap.size, 2, none⟩ = some (.string name) := cellk hn 2 _ rfl
  have c5 : W0.cell? ⟨w.heap.size, 5, none⟩ = some (.string secret) := cellk hn 5 _ rfl
  have f0 : W0.cell? ⟨w.heap.size, 9, none⟩ = some (.int .i64 fk) := cellk hn 9 _ rfl
  have f1 : W0.cell? ⟨w.heap.size, 10, none⟩ = some (.string fname) := cellk hn 10 _ rfl
  have f2 : W0.cell? ⟨w.heap.size, 11, none⟩ = some (.string fval) := cellk hn 11 _ rfl
  have f3 : W0.cell? ⟨w.heap.size, 12, none⟩ = some (.string fini) := cellk hn 12 _ rfl
  have f4 : W0.cell? ⟨w.heap.size, 13, none⟩ = some (.slice faq fan fac) := cellk hn 13 _ rfl
  have f5 : W0.cell? ⟨w.heap.size, 14, none⟩ = some (.string ffin) := cellk hn 14 _ rfl
  have f6 : W0.cell? ⟨w.heap.size, 15, none⟩ = some (.bool fhi) := cellk hn 15 _ rfl
  have f7 : W0.cell? ⟨w.heap.size, 16, none⟩ = some (.bool fhf) := cellk hn 16 _ rfl
  have f8 : W0.cell? ⟨w.heap.size, 17, none⟩ = some (.string frule) := cellk hn 17 _ rfl
  have f9 : W0.cell? ⟨w.heap.size, 18, none⟩ = some (.bool fdn) := cellk hn 18 _ rfl
  have f10 : W0.cell? ⟨w.heap.size, 19, none⟩ = some (.slice fkq fkn fkc) := cellk hn 19 _ rfl
  have c20 : W0.cell? ⟨w.heap.size, 20, none⟩ = some (.slice aq ts.length ac) := cellk hn 20 _ rfl
  have c21 : W0.cell? ⟨w.heap.size, 21, none⟩ = some (.slice cq cs.length cc) := cellk hn 21 _ rfl
  have c22 : W0.cell? ⟨w.heap.size, 22, none⟩ = some (.slice vq vs.length vc) := cellk hn 22 _ rfl
  have c23 : W0.cell? ⟨w.heap.size, 23, none⟩ = some (.string rdn) := cellk hn 23 _ rfl
  have c25 : W0.cell? ⟨w.heap.size, 25, none⟩ = some (.string above) := cellk hn 25 _ rfl
  have c27 : W0.cell? ⟨w.heap.size, 27, none⟩ = some (.string pn) := cellk hn 27 _ rfl
  have c28 : W0.cell? ⟨w.heap.size, 28, none⟩ = some (.string pv) := cellk hn 28 _ rfl
  have Hb0 := Lib.hid hb0
  have Hb := Lib.hid (hb.trans hb0)
  generalize w.heap.size = P0 at *
  clear hn hb hb0
  go_wp2_with fail
  refine (H24.out _ Hb.out).mono ?_
  rintro e W1 ⟨rfl, hb1⟩
  clear f0 f1 f2 f3 f4 f5 f6 f7 f8 f9 f10 H24
  replace c2 := hb1.cell c2
  replace c5 := hb1.cell c5
  replace c20 := hb1.cell c20
  replace c21 := hb1.cell c21
  replace c22 := hb1.cell c22
  replace c23 := hb1.cell c23
  replace c25 := hb1.cell c25
  replace c27 := hb1.cell c27
  replace c28 := hb1.cell c28
  have Hb0 := Lib.hid (Hb0.out.trans hb1)
  have Hb := Lib.hid (Hb.out.trans hb1)
  have Ha := Lib.hid (ha.bel Hb.out)
  have Hc := Lib.hid (hc.bel Hb.out)
  have Hv := Lib.hid (hv.bel Hb.out)
  have HSv := Lib.hid (show Sees W1 S vs from fun z hz => ⟨(hSv z hz).1, (hSv z hz).2.bel Hb.out⟩)
  have HSc := Lib.hid hSc
  clear ha hc hv hSv hSc hb1
  by_cases h1 : r24 < 0
  case pos =>
    obtain rfl := R1.out h1
    clear R1 R2 R3 R4 R5 R6 R7 N1 N2 N3 N4 N5 Ha Hc Hv HSv HSc
    go_wp2
    go_ret
    exact ⟨rfl, Hb0.out⟩
  by_cases h2 : 40 < (ts.length : Int)
  case pos =>
    obtain rfl := R2.out h2
    clear R1 R2 R3 R4 R5 R6 R7 N1 N2 N3 N4 N5 Ha Hc Hv HSv HSc
    go_wp2
    go_ret
    exact ⟨rfl, Hb0.out⟩
  by_cases h3 : 20 < (cs.length : Int)
  case pos =>
    obtain rfl := R3.out h3
    clear R1 R2 R3 R4 R5 R6 R7 N1 N2 N3 N4 N5 Ha Hc Hv HSv HSc
    go_wp2
    go_ret
    exact ⟨rfl, Hb0.out⟩
  have S7 := Lib.hid (R7.out (by omega) (by omega) (by omega))
  have HF := Lib.hid (few26_any W1 S vs _ Hv.out HSv.out)
  clear R1 R2 R3 R7 Hv HSv
  generalize few26R S vs = b4 at *
  go_wp2_with fail
  refine HF.out.mono ?_
  rintro e w' ⟨rfl, rfl⟩
  clear HF
  cases b4 with
  | false =>
    obtain rfl := R4.out rfl
    clear R4 R5 R6 S7 N1 N2 N3 N4 N5 Ha Hc HSc
    go_wp2
    go_ret
    exact ⟨rfl, Hb0.out⟩
  | true =>
  have T7 := Lib.hid (S7.out rfl)
  clear R4 S7
  go_wp2
  clear c22
  go_loopw [3] (fun i wr => ∃ k : Nat, k ≤ ts.length ∧ i = .int .i64 k ∧ Short ts 1000 k ∧ w' = wr) (fun i _ => ts.length - (intOf i).toNat)
  case atStart => exact ⟨0, Nat.zero_le _, rfl, fun j hj => absurd hj (Nat.not_lt_zero _), rfl⟩
  case round =>
    obtain ⟨k, hk, rfl, hall, rfl⟩ := hrel
    by_cases hlt : k < ts.length
    · have hall := Lib.hid hall
      obtain ⟨b, off, cap', e, z0⟩ := str_at Ha.out k hlt
      cases e
      have R5' := Lib.hid (R5.out k hlt)
      have HA := Lib.hid fun h => hall.out.more h
      clear hall
      generalize ts.getD k ⟨#[]⟩ = z at *
      clear T7 Ha Hc R5 R6 N1 N2 N3 N4 N5 HSc
      by_cases h3 : 1000 < (z.size : Int)
      case neg =>
        go_wp2
        go_roundw
        case rel => exact ⟨k + 1, by omega, by go_num, HA.out (by omega), trivial⟩
        case measure => simp [intOf]; omega
      case pos =>
        obtain rfl := R5'.out h3
        clear R5' HA
        go_wp2
        go_ret
        exact ⟨rfl, Hb0.out⟩
    · have e : k = ts.length := by omega
      subst e
      have U7 := Lib.hid (T7.out hall)
      clear hall R5 Ha T7
      go_wp2
      clear c20
      go_loopw [4] (fun i wr => ∃ k : Nat, k ≤ cs.length ∧ i = .int .i64 k ∧ ChOk S cs k ∧ Bel w' wr) (fun i _ => cs.length - (intOf i).toNat)
      case atStart => exact ⟨0, Nat.zero_le _, rfl, fun j hj => absurd hj (Nat.not_lt_zero _), Bel.refl _⟩
      case round =>
        obtain ⟨k, hk, rfl, hr, hbr⟩ := hrel
        replace c2 := hbr.cell c2
        replace c5 := hbr.cell c5
        replace c21 := hbr.cell c21
        replace c23 := hbr.cell c23
        replace c25 := hbr.cell c25
        replace c27 := hbr.cell c27
        replace c28 := hbr.cell c28
        have Hb1 := Lib.hid (Hb0.out.trans hbr)
        have HW := Lib.hid (Hb.out.trans hbr)
        have Hbr := Lib.hid hbr
        by_cases hlt : k < cs.length
        · obtain ⟨b, off, cap', e, z1, z2⟩ := chg_at (Hc.out.bel hbr) k hlt
          cases e
          have HS1 := Lib.hid (HSc.out _ (getD_mem cs Chg.none k hlt))
          have R6' := Lib.hid (R6.out k hlt)
          have HA := Lib.hid fun h => hr.more h
          clear hr U7 Hc hbr R6 N1 N2 N3 N4 N5 HSc
          generalize (cs.getD k Chg.none) = f at *
          obtain ⟨fk, ⟨zn, ⟨zq, zl, zc⟩⟩⟩ := f
          dsimp only [Hd.val] at z1 z2
          go_wp2_with fail
          have hs1 := HS1.out _ (List.mem_singleton.2 rfl)
          have hba := HW.out.alloc (.cells #[.string zn, .slice zq zl zc] 89)
          refine (few26_any _ S [⟨zn, (zq, zl, zc)⟩] _ (sl_one wr ⟨zn, (zq, zl, zc)⟩ 89) (fun z hz => by
            rw [List.mem_singleton.1 hz]
            exact ⟨hs1.1, hs1.2.bel hba⟩)).mono ?_
          rintro e w1 ⟨rfl, rfl⟩
          clear hba hs1
          generalize few26R S [⟨zn, (zq, zl, zc)⟩] = y at *
          cases y with
          | false =>
            obtain rfl := R6'.out rfl
            clear R6' HA
            go_wp2
            go_ret
            exact ⟨rfl, Hb1.out.alloc _⟩
          | true =>
            go_wp2
            go_roundw
            case rel => exact ⟨k + 1, by omega, by go_num, HA.out trivial, Hbr.out.alloc _⟩
            case measure => simp [intOf]; omega
        · have e : k = cs.length := by omega
          subst e
          have V7 := Lib.hid (U7.out hr)
          clear U7 Hc hr R6 HSc
          clear hbr
          by_cases n1 : (name.size : Int) ≤ 5000
          case neg =>
            obtain rfl := N1.out (by omega)
            clear N1 N2 N3 N4 N5 V7
            go_wp2
            go_ret
            exact ⟨rfl, Hb1.out⟩
          by_cases n2 : (secret.size : Int) ≤ 5000
          case neg =>
            obtain rfl := N2.out (by omega)
            clear N1 N2 N3 N4 N5 V7
            go_wp2
            go_ret
            exact ⟨rfl, Hb1.out⟩
          by_cases n3 : (rdn.size : Int) ≤ 5000
          case neg =>
            obtain rfl := N3.out (by omega)
            clear N1 N2 N3 N4 N5 V7
            go_wp2
            go_ret
            exact ⟨rfl, Hb1.out⟩
          by_cases n4 : (above.size : Int) ≤ 5000
          case neg =>
            obtain rfl := N4.out (by omega)
            clear N1 N2 N3 N4 N5 V7
            go_wp2
            go_ret
            exact ⟨rfl, Hb1.out⟩
          by_cases n5 : wrap64 ((pn.size : Int) + pv.size) ≤ 5000
          case neg =>
            obtain rfl := N5.out (Int.not_le.1 n5)
            clear N1 N2 N3 N4 N5 V7
            go_wp2
            go_ret
            exact ⟨rfl, Hb1.out⟩
          obtain rfl := V7.out n1 n2 n3 n4 n5
          clear N1 N2 N3 N4 N5 V7
          go_wp2
          go_ret
          exact ⟨rfl, Hb1.out⟩
end Go.Proofs.YtjkhemeiliflgaaGreatDoor
