/- Contracts of the functions that the statements TruthTable, TruthLaws and TruthParts reach, and the walks of these. No condition. -/
import Derived.Test.YtpmmccmhmoihgaaTc
import Derived.Handy
namespace Go.Proofs.Ytpmmccmhmoihgaa
open Go.RowKit

theorem Tr.v_key (T : Tr) (h : T.isT = true) : ∃ r i, T.v = .complex .f64 r i ∧ FloatKind.f64.format.order r r = some .eq ∧ FloatKind.f64.format.order i i = some .eq := by
  cases T
  · exact ⟨_, _, rfl, ord_1_1, ord_0_0⟩
  · exact ⟨_, _, rfl, ord_m_m, ord_0_0⟩
  · exact ⟨_, _, rfl, ord_0_0, ord_1_1⟩
  · cases h

theorem not_isT (a : Tr) : a.not.isT = true := by cases a <;> rfl

attribute [local go_sem] ord_1_1 ord_1_m ord_1_0 ord_m_1 ord_m_m ord_m_0 ord_0_1 ord_0_m ord_0_0 ord_2_1 ord_2_m ord_2_0
set_option maxHeartbeats 4000000 in
theorem truthLaws_any (x y z : Int) (w : World) : Calls Try.prog 4 #[.int .i64 x, .int .i64 y, .int .i64 z] w fun e w' => e = .returned (.bool true) ∧ Below w.heap.size w w' := by
  have zx := fun w => Lib.hid (z_any x w)
  have zy := fun w => Lib.hid (z_any y w)
  have zz := fun w => Lib.hid (z_any z w)
  generalize zOf x = a at *
  generalize zOf y = b at *
  generalize zOf z = c at *
  obtain ⟨ra, ia, va⟩ := Tr.v_cx a
  obtain ⟨rb, ib, vb⟩ := Tr.v_cx b
  obtain ⟨rc, ic, vc⟩ := Tr.v_cx c
  -- the truths that are told, each once
  obtain ⟨na, hna⟩ : ∃ q : Tr, q = a.not := ⟨_, rfl⟩
  obtain ⟨nb, hnb⟩ : ∃ q : Tr, q = b.not := ⟨_, rfl⟩
  obtain ⟨ab, hab⟩ : ∃ q : Tr, q = andL [a, b] := ⟨_, rfl⟩
  obtain ⟨ob, hob⟩ : ∃ q : Tr, q = orL [a, b] := ⟨_, rfl⟩
  obtain ⟨nab, hnab⟩ : ∃ q : Tr, q = ab.not := ⟨_, rfl⟩
  obtain ⟨nob, hnob⟩ : ∃ q : Tr, q = ob.not := ⟨_, rfl⟩
  obtain ⟨bc, hbc⟩ : ∃ q : Tr, q = andL [b, c] := ⟨_, rfl⟩
  obtain ⟨obc, hobc⟩ : ∃ q : Tr, q = orL [b, c] := ⟨_, rfl⟩
  obtain ⟨ac, hac⟩ : ∃ q : Tr, q = andL [a, c] := ⟨_, rfl⟩
  obtain ⟨oc, hoc⟩ : ∃ q : Tr, q = orL [a, c] := ⟨_, rfl⟩
  obtain ⟨x1, hx1⟩ : ∃ q : Tr, q = andL [a, obc] := ⟨_, rfl⟩
  obtain ⟨x2, hx2⟩ : ∃ q : Tr, q = orL [a, bc] := ⟨_, rfl⟩
  obtain ⟨an, han⟩ : ∃ q : Tr, q = andL [a, na] := ⟨_, rfl⟩
  obtain ⟨on, hon⟩ : ∃ q : Tr, q = orL [a, na] := ⟨_, rfl⟩
  have e1 : orL [na, nb] = nab := by subst hna hnb hnab hab; cases a <;> cases b <;> rfl
  have e2 : andL [na, nb] = nob := by subst hna hnb hnob hob; cases a <;> cases b <;> rfl
  have e3 : andL [b, a] = ab := by subst hab; cases a <;> cases b <;> rfl
  have e4 : orL [b, a] = ob := by subst hob; cases a <;> cases b <;> rfl
  have e5 : andL [a, a, b] = ab := by subst hab; cases a <;> cases b <;> rfl
  have e6 : orL [a, a, b] = ob := by subst hob; cases a <;> cases b <;> rfl
  have e7 : orL [ab, ac] = x1 := by subst hab hac hx1 hobc; cases a <;> cases b <;> cases c <;> rfl
  have e8 : andL [ob, oc] = x2 := by subst hob hoc hx2 hbc; cases a <;> cases b <;> cases c <;> rfl
  have e9 : a.isT = true → na.not = a := by subst hna; cases a <;> intro h <;> first | rfl | cases h
  have e10 : an = .f ∨ an = .u := by subst han hna; cases a <;> simp [andL, Tr.min, Tr.known, Tr.not]
  have e11 : on = .t ∨ on = .u := by subst hon hna; cases a <;> simp [orL, Tr.max, Tr.known, Tr.not]
  have tna : na.isT = true := hna ▸ not_isT a
  have tnb : nb.isT = true := hnb ▸ not_isT b
  have tab : ab.isT = true := hab ▸ andL_isT _
  have tob : ob.isT = true := hob ▸ orL_isT _
  have tnab : nab.isT = true := hnab ▸ not_isT _
  have tnob : nob.isT = true := hnob ▸ not_isT _
  have tbc : bc.isT = true := hbc ▸ andL_isT _
  have tobc : obc.isT = true := hobc ▸ orL_isT _
  have tac : ac.isT = true := hac ▸ andL_isT _
  have toc : oc.isT = true := hoc ▸ orL_isT _
  have tx1 : x1.isT = true := hx1 ▸ andL_isT _
  have tx2 : x2.isT = true := hx2 ▸ orL_isT _
  obtain ⟨rna, ina, vna, -, -⟩ := Tr.v_key na tna
  obtain ⟨rnb, inb, vnb, -, -⟩ := Tr.v_key nb tnb
  obtain ⟨rab, iab, vab, oab, pab⟩ := Tr.v_key ab tab
  obtain ⟨rob, iob, vob, oob, pob⟩ := Tr.v_key ob tob
  obtain ⟨rnab, inab, vnab, onab, pnab⟩ := Tr.v_key nab tnab
  obtain ⟨rnob, inob, vnob, onob, pnob⟩ := Tr.v_key nob tnob
  obtain ⟨rbc, ibc, vbc, -, -⟩ := Tr.v_key bc tbc
  obtain ⟨robc, iobc, vobc, -, -⟩ := Tr.v_key obc tobc
  obtain ⟨rac, iac, vac, -, -⟩ := Tr.v_key ac tac
  obtain ⟨roc, ioc, voc, -, -⟩ := Tr.v_key oc toc
  obtain ⟨rx1, ix1, vx1, ox1, px1⟩ := Tr.v_key x1 tx1
  obtain ⟨rx2, ix2, vx2, ox2, px2⟩ := Tr.v_key x2 tx2
  have o9 : a.isT = true → FloatKind.f64.format.order ra ra = some .eq ∧ FloatKind.f64.format.order ia ia = some .eq := by
    intro h
    obtain ⟨r, i, h1, h2, h3⟩ := Tr.v_key a h
    rw [va] at h1
    cases h1
    exact ⟨h2, h3⟩
  have Hna := Lib.hid hna; have Hnb := Lib.hid hnb; have Hab := Lib.hid hab; have Hob := Lib.hid hob; have Hnab := Lib.hid hnab; have Hnob := Lib.hid hnob
  have Hbc := Lib.hid hbc; have Hobc := Lib.hid hobc; have Hac := Lib.hid hac; have Hoc := Lib.hid hoc; have Hx1 := Lib.hid hx1; have Hx2 := Lib.hid hx2; have Han := Lib.hid han; have Hon := Lib.hid hon
  have E1 := Lib.hid e1; have E2 := Lib.hid e2; have E3 := Lib.hid e3; have E4 := Lib.hid e4; have E5 := Lib.hid e5; have E6 := Lib.hid e6; have E7 := Lib.hid e7; have E8 := Lib.hid e8; have E9 := Lib.hid e9
  have E10 := Lib.hid e10; have E11 := Lib.hid e11
  clear hna hnb hab hob hnab hnob hbc hobc hac hoc hx1 hx2 han hon e1 e2 e3 e4 e5 e6 e7 e8 e9 e10 e11 tna tnb tab tob tnab tnob tbc tobc tac toc tx1 tx2
  -- each call's contract, with the name of what it tells
  have cna : ∀ w, Calls Try.prog 20 #[(.complex .f64 ra ia)] w fun e w' => e = .returned (.complex .f64 rna ina) ∧ w' = w := fun w => by rw [← va, ← vna, Hna.out]; exact not_any a w
  have cnb : ∀ w, Calls Try.prog 20 #[(.complex .f64 rb ib)] w fun e w' => e = .returned (.complex .f64 rnb inb) ∧ w' = w := fun w => by rw [← vb, ← vnb, Hnb.out]; exact not_any b w
  have cnab : ∀ w, Calls Try.prog 20 #[(.complex .f64 rab iab)] w fun e w' => e = .returned (.complex .f64 rnab inab) ∧ w' = w := fun w => by rw [← vab, ← vnab, Hnab.out]; exact not_any ab w
  have cnob : ∀ w, Calls Try.prog 20 #[(.complex .f64 rob iob)] w fun e w' => e = .returned (.complex .f64 rnob inob) ∧ w' = w := fun w => by rw [← vob, ← vnob, Hnob.out]; exact not_any ob w
  have cab : ∀ w bk, w.cell? ⟨bk, 0, none⟩ = some (.complex .f64 ra ia) → w.cell? ⟨bk, 1, none⟩ = some (.complex .f64 rb ib) → Calls Try.prog 16 #[.slice (some ⟨bk, 0, none⟩) 2 2] w fun e w' => e = .returned (.complex .f64 rab iab) ∧ w' = w := fun w bk h0 h1 => by rw [← vab, Hab.out]; exact and2 a b (by rw [va]; exact h0) (by rw [vb]; exact h1)
  have cob : ∀ w bk, w.cell? ⟨bk, 0, none⟩ = some (.complex .f64 ra ia) → w.cell? ⟨bk, 1, none⟩ = some (.complex .f64 rb ib) → Calls Try.prog 18 #[.slice (some ⟨bk, 0, none⟩) 2 2] w fun e w' => e = .returned (.complex .f64 rob iob) ∧ w' = w := fun w bk h0 h1 => by rw [← vob, Hob.out]; exact or2 a b (by rw [va]; exact h0) (by rw [vb]; exact h1)
  have c1 : ∀ w bk, w.cell? ⟨bk, 0, none⟩ = some (.complex .f64 rna ina) → w.cell? ⟨bk, 1, none⟩ = some (.complex .f64 rnb inb) → Calls Try.prog 18 #[.slice (some ⟨bk, 0, none⟩) 2 2] w fun e w' => e = .returned (.complex .f64 rnab inab) ∧ w' = w := fun w bk h0 h1 => by rw [← vnab, ← E1.out]; exact or2 na nb (by rw [vna]; exact h0) (by rw [vnb]; exact h1)
  have c2 : ∀ w bk, w.cell? ⟨bk, 0, none⟩ = some (.complex .f64 rna ina) → w.cell? ⟨bk, 1, none⟩ = some (.complex .f64 rnb inb) → Calls Try.prog 16 #[.slice (some ⟨bk, 0, none⟩) 2 2] w fun e w' => e = .returned (.complex .f64 rnob inob) ∧ w' = w := fun w bk h0 h1 => by rw [← vnob, ← E2.out]; exact and2 na nb (by rw [vna]; exact h0) (by rw [vnb]; exact h1)
  have c3 : ∀ w bk, w.cell? ⟨bk, 0, none⟩ = some (.complex .f64 rb ib) → w.cell? ⟨bk, 1, none⟩ = some (.complex .f64 ra ia) → Calls Try.prog 16 #[.slice (some ⟨bk, 0, none⟩) 2 2] w fun e w' => e = .returned (.complex .f64 rab iab) ∧ w' = w := fun w bk h0 h1 => by rw [← vab, ← E3.out]; exact and2 b a (by rw [vb]; exact h0) (by rw [va]; exact h1)
  have c4 : ∀ w bk, w.cell? ⟨bk, 0, none⟩ = some (.complex .f64 rb ib) → w.cell? ⟨bk, 1, none⟩ = some (.complex .f64 ra ia) → Calls Try.prog 18 #[.slice (some ⟨bk, 0, none⟩) 2 2] w fun e w' => e = .returned (.complex .f64 rob iob) ∧ w' = w := fun w bk h0 h1 => by rw [← vob, ← E4.out]; exact or2 b a (by rw [vb]; exact h0) (by rw [va]; exact h1)
  have c5 : ∀ w bk, w.cell? ⟨bk, 0, none⟩ = some (.complex .f64 ra ia) → w.cell? ⟨bk, 1, none⟩ = some (.complex .f64 ra ia) → w.cell? ⟨bk, 2, none⟩ = some (.complex .f64 rb ib) → Calls Try.prog 16 #[.slice (some ⟨bk, 0, none⟩) 3 3] w fun e w' => e = .returned (.complex .f64 rab iab) ∧ w' = w := fun w bk h0 h1 h2 => by rw [← vab, ← E5.out]; exact and3 a a b (by rw [va]; exact h0) (by rw [va]; exact h1) (by rw [vb]; exact h2)
  have c6 : ∀ w bk, w.cell? ⟨bk, 0, none⟩ = some (.complex .f64 ra ia) → w.cell? ⟨bk, 1, none⟩ = some (.complex .f64 ra ia) → w.cell? ⟨bk, 2, none⟩ = some (.complex .f64 rb ib) → Calls Try.prog 18 #[.slice (some ⟨bk, 0, none⟩) 3 3] w fun e w' => e = .returned (.complex .f64 rob iob) ∧ w' = w := fun w bk h0 h1 h2 => by rw [← vob, ← E6.out]; exact or3 a a b (by rw [va]; exact h0) (by rw [va]; exact h1) (by rw [vb]; exact h2)
  have cbc : ∀ w bk, w.cell? ⟨bk, 0, none⟩ = some (.complex .f64 rb ib) → w.cell? ⟨bk, 1, none⟩ = some (.complex .f64 rc ic) → Calls Try.prog 16 #[.slice (some ⟨bk, 0, none⟩) 2 2] w fun e w' => e = .returned (.complex .f64 rbc ibc) ∧ w' = w := fun w bk h0 h1 => by rw [← vbc, Hbc.out]; exact and2 b c (by rw [vb]; exact h0) (by rw [vc]; exact h1)
  have cobc : ∀ w bk, w.cell? ⟨bk, 0, none⟩ = some (.complex .f64 rb ib) → w.cell? ⟨bk, 1, none⟩ = some (.complex .f64 rc ic) → Calls Try.prog 18 #[.slice (some ⟨bk, 0, none⟩) 2 2] w fun e w' => e = .returned (.complex .f64 robc iobc) ∧ w' = w := fun w bk h0 h1 => by rw [← vobc, Hobc.out]; exact or2 b c (by rw [vb]; exact h0) (by rw [vc]; exact h1)
  have cac : ∀ w bk, w.cell? ⟨bk, 0, none⟩ = some (.complex .f64 ra ia) → w.cell? ⟨bk, 1, none⟩ = some (.complex .f64 rc ic) → Calls Try.prog 16 #[.slice (some ⟨bk, 0, none⟩) 2 2] w fun e w' => e = .returned (.complex .f64 rac iac) ∧ w' = w := fun w bk h0 h1 => by rw [← vac, Hac.out]; exact and2 a c (by rw [va]; exact h0) (by rw [vc]; exact h1)
  have coc : ∀ w bk, w.cell? ⟨bk, 0, none⟩ = some (.complex .f64 ra ia) → w.cell? ⟨bk, 1, none⟩ = some (.complex .f64 rc ic) → Calls Try.prog 18 #[.slice (some ⟨bk, 0, none⟩) 2 2] w fun e w' => e = .returned (.complex .f64 roc ioc) ∧ w' = w := fun w bk h0 h1 => by rw [← voc, Hoc.out]; exact or2 a c (by rw [va]; exact h0) (by rw [vc]; exact h1)
  have cx1 : ∀ w bk, w.cell? ⟨bk, 0, none⟩ = some (.complex .f64 ra ia) → w.cell? ⟨bk, 1, none⟩ = some (.complex .f64 robc iobc) → Calls Try.prog 16 #[.slice (some ⟨bk, 0, none⟩) 2 2] w fun e w' => e = .returned (.complex .f64 rx1 ix1) ∧ w' = w := fun w bk h0 h1 => by rw [← vx1, Hx1.out]; exact and2 a obc (by rw [va]; exact h0) (by rw [vobc]; exact h1)
  have cx2 : ∀ w bk, w.cell? ⟨bk, 0, none⟩ = some (.complex .f64 ra ia) → w.cell? ⟨bk, 1, none⟩ = some (.complex .f64 rbc ibc) → Calls Try.prog 18 #[.slice (some ⟨bk, 0, none⟩) 2 2] w fun e w' => e = .returned (.complex .f64 rx2 ix2) ∧ w' = w := fun w bk h0 h1 => by rw [← vx2, Hx2.out]; exact or2 a bc (by rw [va]; exact h0) (by rw [vbc]; exact h1)
  have c7 : ∀ w bk, w.cell? ⟨bk, 0, none⟩ = some (.complex .f64 rab iab) → w.cell? ⟨bk, 1, none⟩ = some (.complex .f64 rac iac) → Calls Try.prog 18 #[.slice (some ⟨bk, 0, none⟩) 2 2] w fun e w' => e = .returned (.complex .f64 rx1 ix1) ∧ w' = w := fun w bk h0 h1 => by rw [← vx1, ← E7.out]; exact or2 ab ac (by rw [vab]; exact h0) (by rw [vac]; exact h1)
  have c8 : ∀ w bk, w.cell? ⟨bk, 0, none⟩ = some (.complex .f64 rob iob) → w.cell? ⟨bk, 1, none⟩ = some (.complex .f64 roc ioc) → Calls Try.prog 16 #[.slice (some ⟨bk, 0, none⟩) 2 2] w fun e w' => e = .returned (.complex .f64 rx2 ix2) ∧ w' = w := fun w bk h0 h1 => by rw [← vx2, ← E8.out]; exact and2 ob oc (by rw [vob]; exact h0) (by rw [voc]; exact h1)
  have can : ∀ w b, w.cell? ⟨b, 0, none⟩ = some (.complex .f64 ra ia) → w.cell? ⟨b, 1, none⟩ = some (.complex .f64 rna ina) → Calls Try.prog 16 #[.slice (some ⟨b, 0, none⟩) 2 2] w fun e w' => e = .returned an.v ∧ w' = w := fun w b h0 h1 => by rw [Han.out]; exact and2 a na (by rw [va]; exact h0) (by rw [vna]; exact h1)
  have con : ∀ w b, w.cell? ⟨b, 0, none⟩ = some (.complex .f64 ra ia) → w.cell? ⟨b, 1, none⟩ = some (.complex .f64 rna ina) → Calls Try.prog 18 #[.slice (some ⟨b, 0, none⟩) 2 2] w fun e w' => e = .returned on.v ∧ w' = w := fun w b h0 h1 => by rw [Hon.out]; exact or2 a na (by rw [va]; exact h0) (by rw [vna]; exact h1)
  have Kcna := Lib.hid cna; clear cna
  have Kcnb := Lib.hid cnb; clear cnb
  have Kcnab := Lib.hid cnab; clear cnab
  have Kcnob := Lib.hid cnob; clear cnob
  have Kcab := Lib.hid cab; clear cab
  have Kcob := Lib.hid cob; clear cob
  have Kc1 := Lib.hid c1; clear c1
  have Kc2 := Lib.hid c2; clear c2
  have Kc3 := Lib.hid c3; clear c3
  have Kc4 := Lib.hid c4; clear c4
  have Kc5 := Lib.hid c5; clear c5
  have Kc6 := Lib.hid c6; clear c6
  have Kcbc := Lib.hid cbc; clear cbc
  have Kcobc := Lib.hid cobc; clear cobc
  have Kcac := Lib.hid cac; clear cac
  have Kcoc := Lib.hid coc; clear coc
  have Kcx1 := Lib.hid cx1; clear cx1
  have Kcx2 := Lib.hid cx2; clear cx2
  have Kc7 := Lib.hid c7; clear c7
  have Kc8 := Lib.hid c8; clear c8
  have Kcan := Lib.hid can; clear can
  have Kcon := Lib.hid con; clear con
  have cz1 := fun w => Lib.hid (show Calls Try.prog 13 #[.int .i64 x] w fun e w' => e = .returned (.complex .f64 ra ia) ∧ w' = w by rw [← va]; exact (zx w).out)
  have cz2 := fun w => Lib.hid (show Calls Try.prog 13 #[.int .i64 y] w fun e w' => e = .returned (.complex .f64 rb ib) ∧ w' = w by rw [← vb]; exact (zy w).out)
  have cz3 := fun w => Lib.hid (show Calls Try.prog 13 #[.int .i64 z] w fun e w' => e = .returned (.complex .f64 rc ic) ∧ w' = w by rw [← vc]; exact (zz w).out)
  have cis := fun w => Lib.hid (show Calls Try.prog 22 #[.complex .f64 ra ia] w fun e w' => e = .returned (.bool a.isT) ∧ w' = w by rw [← va]; exact is_any a w)
  have cnn : a.isT = true → ∀ w, Hid (Calls Try.prog 20 #[.complex .f64 rna ina] w fun e w' => e = .returned (.complex .f64 ra ia) ∧ w' = w) := fun h w => by show Calls _ _ _ _ _; rw [← vna, ← va, ← E9.out h]; exact not_any na w
  cases ht : a.isT with
  | true =>
    obtain ⟨oa, pa⟩ := o9 ht
    rw [ht] at cis
    have Ht := Lib.hid ht
    clear o9
    have cnn' := cnn ht
    clear cnn ht
    go_enter Try.func4, Try.ntmps4
    go_wp2_with fail
    refine ((cz1 _).out).mono ?_; rintro e w' ⟨rfl, rfl⟩
    go_wp2_with fail
    refine ((cz2 _).out).mono ?_; rintro e w' ⟨rfl, rfl⟩
    go_wp2_with fail
    refine ((cz3 _).out).mono ?_; rintro e w' ⟨rfl, rfl⟩
    go_wp2_with fail
    refine ((cis _).out).mono ?_; rintro e w' ⟨rfl, rfl⟩
    go_wp2_with fail
    refine (Kcna.out _).mono ?_; rintro e w' ⟨rfl, rfl⟩
    go_wp2_with fail
    refine ((cnn' _).out).mono ?_; rintro e w' ⟨rfl, rfl⟩
    go_wp2_with fail
    refine (Kcab.out _ _ (by simp [go_sem]) (by simp [go_sem])).mono ?_; rintro e w' ⟨rfl, rfl⟩
    go_wp2_with fail
    refine (Kcnab.out _).mono ?_; rintro e w' ⟨rfl, rfl⟩
    go_wp2_with fail
    refine (Kcna.out _).mono ?_; rintro e w' ⟨rfl, rfl⟩
    go_wp2_with fail
    refine (Kcnb.out _).mono ?_; rintro e w' ⟨rfl, rfl⟩
    go_wp2_with fail
    refine (Kc1.out _ _ (by simp [go_sem]) (by simp [go_sem])).mono ?_; rintro e w' ⟨rfl, rfl⟩
    go_wp2_with fail
    refine (Kcob.out _ _ (by simp [go_sem]) (by simp [go_sem])).mono ?_; rintro e w' ⟨rfl, rfl⟩
    go_wp2_with fail
    refine (Kcnob.out _).mono ?_; rintro e w' ⟨rfl, rfl⟩
    go_wp2_with fail
    refine (Kcna.out _).mono ?_; rintro e w' ⟨rfl, rfl⟩
    go_wp2_with fail
    refine (Kcnb.out _).mono ?_; rintro e w' ⟨rfl, rfl⟩
    go_wp2_with fail
    refine (Kc2.out _ _ (by simp [go_sem]) (by simp [go_sem])).mono ?_; rintro e w' ⟨rfl, rfl⟩
    go_wp2_with fail
    refine (Kcab.out _ _ (by simp [go_sem]) (by simp [go_sem])).mono ?_; rintro e w' ⟨rfl, rfl⟩
    go_wp2_with fail
    refine (Kc3.out _ _ (by simp [go_sem]) (by simp [go_sem])).mono ?_; rintro e w' ⟨rfl, rfl⟩
    go_wp2_with fail
    refine (Kcob.out _ _ (by simp [go_sem]) (by simp [go_sem])).mono ?_; rintro e w' ⟨rfl, rfl⟩
    go_wp2_with fail
    refine (Kc4.out _ _ (by simp [go_sem]) (by simp [go_sem])).mono ?_; rintro e w' ⟨rfl, rfl⟩
    go_wp2_with fail
    refine (Kc5.out _ _ (by simp [go_sem]) (by simp [go_sem]) (by simp [go_sem])).mono ?_; rintro e w' ⟨rfl, rfl⟩
    go_wp2_with fail
    refine (Kcab.out _ _ (by simp [go_sem]) (by simp [go_sem])).mono ?_; rintro e w' ⟨rfl, rfl⟩
    go_wp2_with fail
    refine (Kc6.out _ _ (by simp [go_sem]) (by simp [go_sem]) (by simp [go_sem])).mono ?_; rintro e w' ⟨rfl, rfl⟩
    go_wp2_with fail
    refine (Kcob.out _ _ (by simp [go_sem]) (by simp [go_sem])).mono ?_; rintro e w' ⟨rfl, rfl⟩
    go_wp2_with fail
    refine (Kcobc.out _ _ (by simp [go_sem]) (by simp [go_sem])).mono ?_; rintro e w' ⟨rfl, rfl⟩
    go_wp2_with fail
    refine (Kcx1.out _ _ (by simp [go_sem]) (by simp [go_sem])).mono ?_; rintro e w' ⟨rfl, rfl⟩
    go_wp2_with fail
    refine (Kcab.out _ _ (by simp [go_sem]) (by simp [go_sem])).mono ?_; rintro e w' ⟨rfl, rfl⟩
    go_wp2_with fail
    refine (Kcac.out _ _ (by simp [go_sem]) (by simp [go_sem])).mono ?_; rintro e w' ⟨rfl, rfl⟩
    go_wp2_with fail
    refine (Kc7.out _ _ (by simp [go_sem]) (by simp [go_sem])).mono ?_; rintro e w' ⟨rfl, rfl⟩
    go_wp2_with fail
    refine (Kcbc.out _ _ (by simp [go_sem]) (by simp [go_sem])).mono ?_; rintro e w' ⟨rfl, rfl⟩
    go_wp2_with fail
    refine (Kcx2.out _ _ (by simp [go_sem]) (by simp [go_sem])).mono ?_; rintro e w' ⟨rfl, rfl⟩
    go_wp2_with fail
    refine (Kcob.out _ _ (by simp [go_sem]) (by simp [go_sem])).mono ?_; rintro e w' ⟨rfl, rfl⟩
    go_wp2_with fail
    refine (Kcoc.out _ _ (by simp [go_sem]) (by simp [go_sem])).mono ?_; rintro e w' ⟨rfl, rfl⟩
    go_wp2_with fail
    refine (Kc8.out _ _ (by simp [go_sem]) (by simp [go_sem])).mono ?_; rintro e w' ⟨rfl, rfl⟩
    go_wp2_with fail
    refine (Kcna.out _).mono ?_; rintro e w' ⟨rfl, rfl⟩
    go_wp2_with fail
    refine (Kcan.out _ _ (by simp [go_sem]) (by simp [go_sem])).mono ?_; rintro e w' ⟨rfl, rfl⟩
    rcases E10.out with h | h
    all_goals
      rw [h]
      simp only [Tr.v]
      clear h
      go_wp2_with fail
      refine (Kcna.out _).mono ?_; rintro e w' ⟨rfl, rfl⟩
      go_wp2_with fail
      refine (Kcon.out _ _ (by simp [go_sem]) (by simp [go_sem])).mono ?_; rintro e w' ⟨rfl, rfl⟩
      rcases E11.out with h | h
      all_goals
        rw [h]
        simp only [Tr.v]
        clear h
        go_wp2_with fail
        refine (awake_any _).mono ?_; rintro e w'' ⟨rfl, hb⟩
        go_wp2
        go_ret
        refine ⟨rfl, Below.trans ?_ (hb.mono (by simp; omega))⟩
        go_grown
  | false =>
    rw [ht] at cis
    clear o9 cnn ht
    go_enter Try.func4, Try.ntmps4
    go_wp2_with fail
    refine ((cz1 _).out).mono ?_; rintro e w' ⟨rfl, rfl⟩
    go_wp2_with fail
    refine ((cz2 _).out).mono ?_; rintro e w' ⟨rfl, rfl⟩
    go_wp2_with fail
    refine ((cz3 _).out).mono ?_; rintro e w' ⟨rfl, rfl⟩
    go_wp2_with fail
    refine ((cis _).out).mono ?_; rintro e w' ⟨rfl, rfl⟩
    go_wp2_with fail
    refine (Kcab.out _ _ (by simp [go_sem]) (by simp [go_sem])).mono ?_; rintro e w' ⟨rfl, rfl⟩
    go_wp2_with fail
    refine (Kcnab.out _).mono ?_; rintro e w' ⟨rfl, rfl⟩
    go_wp2_with fail
    refine (Kcna.out _).mono ?_; rintro e w' ⟨rfl, rfl⟩
    go_wp2_with fail
    refine (Kcnb.out _).mono ?_; rintro e w' ⟨rfl, rfl⟩
    go_wp2_with fail
    refine (Kc1.out _ _ (by simp [go_sem]) (by simp [go_sem])).mono ?_; rintro e w' ⟨rfl, rfl⟩
    go_wp2_with fail
    refine (Kcob.out _ _ (by simp [go_sem]) (by simp [go_sem])).mono ?_; rintro e w' ⟨rfl, rfl⟩
    go_wp2_with fail
    refine (Kcnob.out _).mono ?_; rintro e w' ⟨rfl, rfl⟩
    go_wp2_with fail
    refine (Kcna.out _).mono ?_; rintro e w' ⟨rfl, rfl⟩
    go_wp2_with fail
    refine (Kcnb.out _).mono ?_; rintro e w' ⟨rfl, rfl⟩
    go_wp2_with fail
    refine (Kc2.out _ _ (by simp [go_sem]) (by simp [go_sem])).mono ?_; rintro e w' ⟨rfl, rfl⟩
    go_wp2_with fail
    refine (Kcab.out _ _ (by simp [go_sem]) (by simp [go_sem])).mono ?_; rintro e w' ⟨rfl, rfl⟩
    go_wp2_with fail
    refine (Kc3.out _ _ (by simp [go_sem]) (by simp [go_sem])).mono ?_; rintro e w' ⟨rfl, rfl⟩
    go_wp2_with fail
    refine (Kcob.out _ _ (by simp [go_sem]) (by simp [go_sem])).mono ?_; rintro e w' ⟨rfl, rfl⟩
    go_wp2_with fail
    refine (Kc4.out _ _ (by simp [go_sem]) (by simp [go_sem])).mono ?_; rintro e w' ⟨rfl, rfl⟩
    go_wp2_with fail
    refine (Kc5.out _ _ (by simp [go_sem]) (by simp [go_sem]) (by simp [go_sem])).mono ?_; rintro e w' ⟨rfl, rfl⟩
    go_wp2_with fail
    refine (Kcab.out _ _ (by simp [go_sem]) (by simp [go_sem])).mono ?_; rintro e w' ⟨rfl, rfl⟩
    go_wp2_with fail
    refine (Kc6.out _ _ (by simp [go_sem]) (by simp [go_sem]) (by simp [go_sem])).mono ?_; rintro e w' ⟨rfl, rfl⟩
    go_wp2_with fail
    refine (Kcob.out _ _ (by simp [go_sem]) (by simp [go_sem])).mono ?_; rintro e w' ⟨rfl, rfl⟩
    go_wp2_with fail
    refine (Kcobc.out _ _ (by simp [go_sem]) (by simp [go_sem])).mono ?_; rintro e w' ⟨rfl, rfl⟩
    go_wp2_with fail
    refine (Kcx1.out _ _ (by simp [go_sem]) (by simp [go_sem])).mono ?_; rintro e w' ⟨rfl, rfl⟩
    go_wp2_with fail
    refine (Kcab.out _ _ (by simp [go_sem]) (by simp [go_sem])).mono ?_; rintro e w' ⟨rfl, rfl⟩
    go_wp2_with fail
    refine (Kcac.out _ _ (by simp [go_sem]) (by simp [go_sem])).mono ?_; rintro e w' ⟨rfl, rfl⟩
    go_wp2_with fail
    refine (Kc7.out _ _ (by simp [go_sem]) (by simp [go_sem])).mono ?_; rintro e w' ⟨rfl, rfl⟩
    go_wp2_with fail
    refine (Kcbc.out _ _ (by simp [go_sem]) (by simp [go_sem])).mono ?_; rintro e w' ⟨rfl, rfl⟩
    go_wp2_with fail
    refine (Kcx2.out _ _ (by simp [go_sem]) (by simp [go_sem])).mono ?_; rintro e w' ⟨rfl, rfl⟩
    go_wp2_with fail
    refine (Kcob.out _ _ (by simp [go_sem]) (by simp [go_sem])).mono ?_; rintro e w' ⟨rfl, rfl⟩
    go_wp2_with fail
    refine (Kcoc.out _ _ (by simp [go_sem]) (by simp [go_sem])).mono ?_; rintro e w' ⟨rfl, rfl⟩
    go_wp2_with fail
    refine (Kc8.out _ _ (by simp [go_sem]) (by simp [go_sem])).mono ?_; rintro e w' ⟨rfl, rfl⟩
    go_wp2_with fail
    refine (Kcna.out _).mono ?_; rintro e w' ⟨rfl, rfl⟩
    go_wp2_with fail
    refine (Kcan.out _ _ (by simp [go_sem]) (by simp [go_sem])).mono ?_; rintro e w' ⟨rfl, rfl⟩
    rcases E10.out with h | h
    all_goals
      rw [h]
      simp only [Tr.v]
      clear h
      go_wp2_with fail
      refine (Kcna.out _).mono ?_; rintro e w' ⟨rfl, rfl⟩
      go_wp2_with fail
      refine (Kcon.out _ _ (by simp [go_sem]) (by simp [go_sem])).mono ?_; rintro e w' ⟨rfl, rfl⟩
      rcases E11.out with h | h
      all_goals
        rw [h]
        simp only [Tr.v]
        clear h
        go_wp2_with fail
        refine (awake_any _).mono ?_; rintro e w'' ⟨rfl, hb⟩
        go_wp2
        go_ret
        refine ⟨rfl, Below.trans ?_ (hb.mono (by simp; omega))⟩
        go_grown
end Go.Proofs.Ytpmmccmhmoihgaa
