/- AclViews: parts of its proof. No condition. -/
import Derived.Test.YtljeeehimcdmbaaGreatDoorMGreatDoorAl5
import Derived.Deep.CutBlock
import Derived.StillTailTactics
import Derived.Sort.AtCall
section
/- The walk of toponymref31.fits. No condition. -/
namespace Go.Proofs.YtljeeehimcdmbaaGreatDoor
open Go.RowKit Go.Wd Go.Dir Go.Shelf
/-- The kind's bit, by shifts. -/
def bitR (ks kind : Int) : Int := if kind = 1 then ks else if kind = 2 then ks / 2 else if kind = 4 then ks / 2 / 2 else ks / 2 / 2 / 2
theorem bit_eq (ks kind : Int) (hk : oneKind kind = true) : (landI ks kind != 0) = decide (bitR ks kind % 2 = 1) := by
  unfold oneKind at hk
  rw [decide_eq_true_eq] at hk
  rcases hk with rfl | rfl | rfl | rfl
  · rw [land_ne ks 1 0 (by decide) (by decide)]
    exact decide_eq_decide.2 (by unfold bitR; simp)
  · rw [land_ne ks 2 1 (by decide) (by decide)]
    exact decide_eq_decide.2 (by unfold bitR; simp)
  · rw [land_ne ks 4 2 (by decide) (by decide)]
    exact decide_eq_decide.2 (by unfold bitR; simp; omega)
  · rw [land_ne ks 8 3 (by decide) (by decide)]
    exact decide_eq_decide.2 (by unfold bitR; simp; omega)
theorem meant_true {who key : ByteArray} {g : Grant} (h : meant who key g = true) : g.all = true ∨ (g.all = false ∧ g.self = true ∧ ¬ who = ⟨#[]⟩ ∧ who = key) ∨ (g.all = false ∧ g.self = false ∧ who = g.who) := by
  unfold meant at h
  cases ha : g.all
  · cases hs : g.self
    · rw [ha, hs] at h
      right; right
      refine ⟨rfl, rfl, eqs_true (by simpa using h)⟩
    · rw [ha, hs] at h
      right; left
      simp only [Bool.false_or, Bool.true_and, Bool.not_true, Bool.and_false, Bool.false_and, Bool.or_false, Bool.and_eq_true, Bool.not_eq_true'] at h
      refine ⟨rfl, rfl, fun e => ?_, eqs_true h.2⟩
      rw [e, eqs_self] at h
      cases h.1
  · exact .inl rfl

set_option maxRecDepth 100000 in
set_option maxHeartbeats 3200000 in
theorem fitsR_any (g : Grant) (who key attr : ByteArray) (kind : Int) (hkind : oneKind kind = true) (l : List Attr) (v : Value) (q2 : Option Addr) (m2 cap2 : Nat) (w : World)
    (hs : Sl w v 6 l.length (attrCells l)) (hl : l.length < 100000) (ha : ∀ a ∈ l, shortA a) (hk : key.size ≤ 1000000) (hgb : g.below.size ≤ 1000000) :
    Calls Tryz.prog 26 #[.agg #[v, .slice q2 m2 cap2], .agg #[.string g.who, .string g.below, .string g.attr, .bool g.all, .bool g.self, .int .i64 g.kinds, .bool g.deny], .string who, .string key, .string attr, .int .i64 kind]
      w fun e w' => e = .returned (.bool (fitsG l who key attr kind g)) ∧ Bel w w' := by
  have HU := fun w' => Lib.hid (Dk.refUnder_any key g.below hk hgb w')
  have HI := fun w' (h : Bel w w') => Lib.hid (is20_any l v attr g.attr w' (hs.bel h) (by omega) ha)
  obtain ⟨q, cap, rfl⟩ : ∃ q cap, v = .slice q l.length cap := by obtain ⟨_, q, cap, h, _⟩ := hs; exact ⟨q, cap, h⟩
  clear hs ha hk hgb
  obtain ⟨r, hr⟩ : ∃ r, r = fitsG l who key attr kind g := ⟨_, rfl⟩
  rw [← hr]
  unfold fitsG at hr
  rw [bit_eq g.kinds kind hkind] at hr
  have HM := Lib.hid (@meant_true who key g)
  have HM0 : Hid (meant who key g = false → r = false) := Lib.hid fun h => by rw [hr, h]; rfl
  have HR := Lib.hid fun (h : meant who key g = true) => show r = (decide (bitR g.kinds kind % 2 = 1) && (Dk.underR key g.below && (eqs g.attr ⟨#[]⟩ || (eqs g.attr attr || isA l attr g.attr)))) from by rw [hr, h]; rfl
  clear hr
  obtain ⟨gw, gb, ga, all, self, ks, dn⟩ := g
  dsimp only at HM HM0 HR HU HI ⊢
  go_enter Tryz.func26, Tryz.ntmps26
  go_upto_block 0 with fail
  have hbel := ((Bel.refl w).alloc (.cells #[.slice q l.length cap, .slice q2 m2 cap2] 25)).alloc (.cells #[.string gw, .string gb, .string ga, .bool all, .bool self, .int .i64 ks, .bool dn] 79)
  have b1 := new_at (w.alloc (.cells #[.slice q l.length cap, .slice q2 m2 cap2] 25)) (.cells #[.string gw, .string gb, .string ga, .bool all, .bool self, .int .i64 ks, .bool dn] 79)
  have b0 := old_at (new_at w (.cells #[.slice q l.length cap, .slice q2 m2 cap2] 25)) (.cells #[.string gw, .string gb, .string ga, .bool all, .bool self, .int .i64 ks, .bool dn] 79)
  simp only [World.size_alloc] at b0 b1 ⊢
  generalize hW0 : World.alloc _ _ = W0 at *
  clear hW0
  have g0 : W0.cell? ⟨w.heap.size + 1, 0, none⟩ = some (.string gw) := cellk b1 0 _ rfl
  have g1 : W0.cell? ⟨w.heap.size + 1, 1, none⟩ = some (.string gb) := cellk b1 1 _ rfl
  have g2 : W0.cell? ⟨w.heap.size + 1, 2, none⟩ = some (.string ga) := cellk b1 2 _ rfl
  have g3 : W0.cell? ⟨w.heap.size + 1, 3, none⟩ = some (.bool all) := cellk b1 3 _ rfl
  have g4 : W0.cell? ⟨w.heap.size + 1, 4, none⟩ = some (.bool self) := cellk b1 4 _ rfl
  have g5 : W0.cell? ⟨w.heap.size + 1, 5, none⟩ = some (.int .i64 ks) := cellk b1 5 _ rfl
  have s0 : W0.cell? ⟨w.heap.size, 0, none⟩ = some (.slice q l.length cap) := cellk b0 0 _ rfl
  generalize w.heap.size = P0 at g0 g1 g2 g3 g4 g5 s0 ⊢
  clear b0 b1
  have Hbel := Lib.hid hbel
  clear hbel
  have E0 : ∀ x : ByteArray, (x.toList == x.toList) = true := fun x => by simp
  cases hm : meant who key ⟨gw, gb, ga, all, self, ks, dn⟩ with
  | false =>
    obtain rfl := HM0.out hm
    clear HM0 HM HR HU HI g1 g2 g5 s0
    cases all
    · cases self
      · have e : ¬ who = gw := fun e => by
          rw [e] at hm
          simp [meant, eqs_self] at hm
        obtain ⟨e0, e1, e2⟩ := eqs_no e
        clear e e2 hm E0
        go_wp2
        go_ret
        exact ⟨rfl, Hbel.out⟩
      · by_cases e : who = ⟨#[]⟩
        · subst e
          clear hm E0
          go_wp2
          go_ret
          exact ⟨rfl, Hbel.out⟩
        · have e' : ¬ who = key := fun e' => by
            rw [← e'] at hm
            have := (eqs_no e).2.2
            simp [meant, eqs_self, this] at hm
          obtain ⟨n1, n2, n3⟩ := ne_empty e
          obtain ⟨k0, k1, k2⟩ := eqs_no e'
          clear e e' k2 hm E0
          go_wp2
          go_ret
          exact ⟨rfl, Hbel.out⟩
    · simp [meant] at hm
  | true =>
    have hd := HM.out hm
    have hr := HR.out hm
    clear HM HR HM0 hm
    have H1 := Lib.hid hr
    clear hr
    generalize Dk.underR key gb = u at HU H1
    generalize isA l attr ga = ia at HI H1
    go_cut [12] from 15 to 31 (fun s12 wx => s12 = .bool false ∧ wx = W0)
    case first =>
      clear HU HI H1 g1 g2 g5 s0 Hbel
      rcases hd with hd | hd | hd
      · obtain rfl := hd
        go_wp2
        go_meet
        exact ⟨rfl, rfl⟩
      · obtain ⟨rfl, rfl, hne, rfl⟩ := hd
        obtain ⟨n1, n2, n3⟩ := ne_empty hne
        have e0 := E0 who
        clear hne E0
        go_wp2
        go_meet
        exact ⟨rfl, rfl⟩
      · obtain ⟨rfl, rfl, rfl⟩ := hd
        have e0 := E0 who
        clear E0
        go_wp2
        go_meet
        exact ⟨rfl, rfl⟩
    case rest =>
      obtain ⟨rfl, rfl⟩ := hcut
      clear hd g0 g3 g4
      have hbel := Hbel.out
      clear Hbel
      have Hbel := Lib.hid hbel
      obtain ⟨p, hp⟩ : ∃ p, p = (eqs ga ⟨#[]⟩ || (eqs ga attr || ia)) := ⟨_, rfl⟩
      rw [← hp] at H1
      have Hp := Lib.hid hp
      clear hp
      cases u with
      | false =>
        obtain rfl : r = false := by rw [H1.out]; simp
        clear H1 Hp HI g2 g5 s0 E0
        go_wp2_with (go_at_call 40; refine (HU _).out.mono ?_; rintro e w' ⟨rfl, rfl⟩)
        go_ret
        exact ⟨rfl, hbel⟩
      | true =>
      go_upto_region 9 with (go_at_call 40; refine (HU _).out.mono ?_; rintro e w3 ⟨rfl, hw3⟩; subst hw3)
      clear HU g1
      have HI1 := HI _ hbel
      clear HI hbel
      go_cut [54] from 37 to 53 (fun s54 wx => s54 = .bool (!p) ∧ Bel w3 wx)
      case first =>
        clear H1 g5 Hbel
        by_cases ea : ga = ⟨#[]⟩
        · subst ea
          obtain rfl : p = true := by rw [Hp.out, eqs_self]; rfl
          clear HI1 Hp E0
          go_wp2
          go_meet
          exact ⟨rfl, Bel.refl _⟩
        obtain ⟨n1, n2, n3⟩ := ne_empty ea
        by_cases eb : attr = ga
        · subst eb
          have e0 := E0 attr
          obtain rfl : p = true := by rw [Hp.out, eqs_self, Bool.true_or, Bool.or_true]
          clear HI1 Hp E0 ea
          go_wp2
          go_meet
          exact ⟨rfl, Bel.refl _⟩
        obtain ⟨k0, k1, -⟩ := eqs_no eb
        have hp := Hp.out
        obtain ⟨-, -, e2⟩ := eqs_no ea
        obtain ⟨-, -, e3⟩ := eqs_no (fun e : ga = attr => eb e.symm)
        rw [e2, e3, Bool.false_or, Bool.false_or] at hp
        subst hp
        clear ea eb e2 e3 E0 Hp
        go_wp2_with fail
        refine HI1.out.mono ?_
        rintro e w2 ⟨rfl, hb2⟩
        have Hb2 := Lib.hid hb2
        clear hb2 HI1 g2 s0
        go_wp2
        go_meet
        exact ⟨rfl, Hb2.out⟩
      case rest =>
        obtain ⟨rfl, hb2⟩ := hcut
        have hr := H1.out
        have Hb := Lib.hid (Hbel.out.trans hb2)
        replace g5 := hb2.cell g5
        clear H1 HI1 Hp Hbel g2 s0 hb2 E0
        cases p with
        | false =>
          obtain rfl : r = false := by rw [hr]; simp
          clear hr
          go_wp2
          go_ret
          exact ⟨rfl, Hb.out⟩
        | true =>
        rw [Bool.and_true, Bool.and_true] at hr
        have hk : kind = 1 ∨ kind = 2 ∨ kind = 4 ∨ kind = 8 := by unfold oneKind at hkind; exact of_decide_eq_true hkind
        have hr : r = decide (bits BinOp.and IntKind.i64 (bitR ks kind) 1 = 1) := by rw [hr, land_one]
        have Hr := Lib.hid hr
        clear hr hkind
        go_wp2
        clear g5
        go_loopw [13, 14] (fun b i wr => wc = wr ∧ ((i = .int .i64 1 ∧ b = .int .i64 ks) ∨ (2 ≤ kind ∧ i = .int .i64 2 ∧ b = .int .i64 (ks / 2)) ∨ (4 ≤ kind ∧ i = .int .i64 4 ∧ b = .int .i64 (ks / 2 / 2)) ∨ (8 ≤ kind ∧ i = .int .i64 8 ∧ b = .int .i64 (ks / 2 / 2 / 2)))) (fun _ i _ => 16 - (intOf i).toNat)
        case atStart => exact ⟨rfl, .inl ⟨rfl, rfl⟩⟩
        case round =>
          obtain ⟨rfl, hrel⟩ := hrel
          rcases hk with rfl | rfl | rfl | rfl
          · rcases hrel with ⟨rfl, rfl⟩ | ⟨h, _⟩ | ⟨h, _⟩ | ⟨h, _⟩ <;> first | omega | skip
            have hr : r = decide (bits BinOp.and IntKind.i64 ks 1 = 1) := Hr.out
            subst hr
            clear Hr
            go_wp2
            go_ret
            exact ⟨rfl, Hb.out⟩
          · rcases hrel with ⟨rfl, rfl⟩ | ⟨h, rfl, rfl⟩ | ⟨h, _⟩ | ⟨h, _⟩ <;> first | omega | skip
            · go_wp2
              go_roundw
              case rel => exact ⟨trivial, .inr (.inl ⟨by omega, by go_num, by go_num⟩)⟩
              case measure => simp [intOf]
            · have hr : r = decide (bits BinOp.and IntKind.i64 (ks / 2) 1 = 1) := Hr.out
              subst hr
              clear Hr
              go_wp2
              go_ret
              exact ⟨rfl, Hb.out⟩
          · rcases hrel with ⟨rfl, rfl⟩ | ⟨h, rfl, rfl⟩ | ⟨h, rfl, rfl⟩ | ⟨h, _⟩ <;> first | omega | skip
            · go_wp2
              go_roundw
              case rel => exact ⟨trivial, .inr (.inl ⟨by omega, by go_num, by go_num⟩)⟩
              case measure => simp [intOf]
            · go_wp2
              go_roundw
              case rel => exact ⟨trivial, .inr (.inr (.inl ⟨by omega, by go_num, by go_num⟩))⟩
              case measure => simp [intOf]
            · have hr : r = decide (bits BinOp.and IntKind.i64 (ks / 2 / 2) 1 = 1) := Hr.out
              subst hr
              clear Hr
              go_wp2
              go_ret
              exact ⟨rfl, Hb.out⟩
          · rcases hrel with ⟨rfl, rfl⟩ | ⟨h, rfl, rfl⟩ | ⟨h, rfl, rfl⟩ | ⟨h, rfl, rfl⟩ <;> first | omega | skip
            · go_wp2
              go_roundw
              case rel => exact ⟨trivial, .inr (.inl ⟨by omega, by go_num, by go_num⟩)⟩
              case measure => simp [intOf]
            · go_wp2
              go_roundw
              case rel => exact ⟨trivial, .inr (.inr (.inl ⟨by omega, by go_num, by go_num⟩))⟩
              case measure => simp [intOf]
            · go_wp2
              go_roundw
              case rel => exact ⟨trivial, .inr (.inr (.inr ⟨by omega, by go_num, by go_num⟩))⟩
              case measure => simp [intOf]
            · have hr : r = decide (bits BinOp.and IntKind.i64 (ks / 2 / 2 / 2) 1 = 1) := Hr.out
              subst hr
              clear Hr
              go_wp2
              go_ret
              exact ⟨rfl, Hb.out⟩
end Go.Proofs.YtljeeehimcdmbaaGreatDoor
end

section
/- The walk of toponymref31.Allowed. No condition. -/
namespace Go.Proofs.YtljeeehimcdmbaaGreatDoor
open Go.RowKit Go.Wd Go.Dir Go.Shelf
theorem snoc_law (l : List Attr) (sl : List SG) (who key attr : ByteArray) (kind : Int) (ho : oneKind kind = true) (k : Nat) (hk : k < sl.length) :
    allowedA l (sl.take (k + 1)) who key attr kind = if fitsG l who key attr kind (sl.getD k SG.none).g then !(sl.getD k SG.none).g.deny else allowedA l (sl.take k) who key attr kind := by
  rw [take_snoc sl SG.none k hk, last_law, fits31_eq, ho, Bool.true_and]
set_option maxRecDepth 100000 in
set_option maxHeartbeats 1600000 in
theorem refAllowed_any (l : List Attr) (sl : List SG) (who key attr : ByteArray) (kind : Int) (v gv : Value) (q2 : Option Addr) (m2 cap2 : Nat) (w : World)
    (hs : Sl w v 6 l.length (attrCells l)) (hl : l.length < 100000) (ha : ∀ a ∈ l, shortA a) (hk : key.size ≤ 1000000) (hg : Sl w gv 7 sl.length (grantCells (sgs sl))) (hgl : sl.length ≤ 30) :
    Calls Tryz.prog 12 #[.agg #[v, .slice q2 m2 cap2], gv, .string who, .string key, .string attr, .int .i64 kind] w fun e w' => e = .returned (.bool (allowedA l sl who key attr kind)) ∧ Bel w w' := by
  have HF := Lib.hid fun (g : SG) (ho : oneKind kind = true) w' (h : Bel w w') => fitsR_any g.g who key attr kind ho l v q2 m2 cap2 w' (hs.bel h) hl ha hk g.h
  obtain ⟨q, cap, rfl⟩ : ∃ q cap, v = .slice q l.length cap := by obtain ⟨_, q, cap, h, _⟩ := hs; exact ⟨q, cap, h⟩
  obtain ⟨qg, capg, rfl⟩ : ∃ q cap, gv = .slice q sl.length cap := by obtain ⟨_, q, cap, h, _⟩ := hg; exact ⟨q, cap, h⟩
  have Hg := Lib.hid hg
  clear hs ha hg
  obtain ⟨r, hr⟩ : ∃ r, r = allowedA l sl who key attr kind := ⟨_, rfl⟩
  rw [← hr]
  have Hr := Lib.hid hr
  clear hr
  go_enter Tryz.func12, Tryz.ntmps12
  go_upto_region 1 with fail
  have hb0 := (Bel.refl w).alloc (.cells #[.slice q l.length cap, .slice q2 m2 cap2] 25)
  have hn0 := new_at w (.cells #[.slice q l.length cap, .slice q2 m2 cap2] 25)
  generalize w.alloc (.cells #[.slice q l.length cap, .slice q2 m2 cap2] 25) = W0 at *
  have s0 : W0.cell? ⟨w.heap.size, 0, none⟩ = some (.slice q l.length cap) := cellk hn0 0 _ rfl
  have s1 : W0.cell? ⟨w.heap.size, 1, none⟩ = some (.slice q2 m2 cap2) := cellk hn0 1 _ rfl
  generalize w.heap.size = P0 at s0 s1 ⊢
  clear hn0
  have Hb0 := Lib.hid hb0
  clear hb0
  obtain ⟨o, ho⟩ : ∃ o, o = oneKind kind := ⟨_, rfl⟩
  have Ho := Lib.hid ho
  clear ho
  go_cut [28] from 15 to 27 (fun s28 wx => s28 = .bool (!o) ∧ wx = W0)
  case first =>
    clear Hr HF Hg Hb0 s0 s1
    by_cases h1 : kind = 1
    · subst h1
      obtain rfl : o = true := Ho.out
      clear Ho
      go_wp2
      go_meet
      exact ⟨rfl, rfl⟩
    by_cases h2 : kind = 2
    · subst h2
      obtain rfl : o = true := Ho.out
      clear Ho
      go_wp2
      go_meet
      exact ⟨rfl, rfl⟩
    by_cases h4 : kind = 4
    · subst h4
      obtain rfl : o = true := Ho.out
      clear Ho
      go_wp2
      go_meet
      exact ⟨rfl, rfl⟩
    by_cases h8 : kind = 8
    · subst h8
      obtain rfl : o = true := Ho.out
      clear Ho
      go_wp2
      go_meet
      exact ⟨rfl, rfl⟩
    obtain rfl : o = false := by rw [Ho.out]; simp [oneKind, h1, h2, h4, h8]
    clear Ho
    go_wp2
    go_meet
    exact ⟨by simp [h1, h2, h4, h8], rfl⟩
  case rest =>
    obtain ⟨rfl, rfl⟩ := hcut
    cases o with
    | false =>
      obtain rfl : r = false := by rw [Hr.out]; unfold allowedA; rw [← Ho.out]; rfl
      clear Hr HF Hg Ho s0 s1
      go_wp2
      go_ret
      exact ⟨rfl, Hb0.out⟩
    | true =>
      have hone := Ho.out.symm
      have HL := Lib.hid fun k hk => snoc_law l sl who key attr kind hone k hk
      have HF2 := Lib.hid fun g w' h => HF.out g hone w' h
      clear HF Ho hone
      go_wp2
      go_loopw [13, 14] (fun b i wr => ∃ k : Nat, k ≤ sl.length ∧ i = .int .i64 k ∧ b = .bool (allowedA l (sl.take k) who key attr kind) ∧ Bel wc wr) (fun _ i _ => sl.length - (intOf i).toNat)
      case atStart => exact ⟨0, Nat.zero_le _, rfl, by rw [List.take_zero, none_law], Bel.refl _⟩
      case round =>
        obtain ⟨k, hk, rfl, rfl, hb⟩ := hrel
        by_cases hlt : k < sl.length
        · have hgk := Hg.out.bel (Hb0.out.trans hb)
          rw [← sgs_len sl] at hgk
          obtain ⟨bb, off, cap', e, c0, c1, c2, c3, c4, c5, c6⟩ := grant_at hgk k (by rw [sgs_len]; exact hlt)
          rw [sgs_at sl k hlt] at c0 c1 c2 c3 c4 c5 c6
          cases e
          have HS := Lib.hid (HL.out k hlt)
          have HC := HF2.out (sl.getD k SG.none) wr.drew (Hb0.out.trans hb).drew
          have hbd := hb.drew
          clear HF2 HL Hg Hr hgk
          have t0 := hb.cell s0
          have t1 := hb.cell s1
          generalize (sl.getD k SG.none).g = g at *
          obtain ⟨f, hf⟩ : ∃ f, f = fitsG l who key attr kind g := ⟨_, rfl⟩
          rw [← hf] at HC HS
          clear hf
          have i0 : (0 : Int) ≤ (k : Int) := Int.natCast_nonneg _
          have i1 : (k : Int) < (sl.length : Int) := by omega
          have Hb := Lib.hid hb
          clear hb
          go_upto_region 7 with fail
          go_still_tail 9, (by kernel_rfl)
          change wpList _ _ _ _ _ wr.drew
          have d6 : wr.drew.cell? ⟨bb, off + k * 7 + 6, none⟩ = some (.bool g.deny) := c6
          clear c0 c1 c2 c3 c4 c5 c6 t0 t1 Hb
          generalize wr.drew = w2 at *
          have Hbd := Lib.hid hbd
          clear hbd
          go_wp2_with fail
          refine HC.mono ?_
          rintro e w3 ⟨rfl, hb3⟩
          have e6 := hb3.cell d6
          have Hb3 := Lib.hid (Hbd.out.trans hb3)
          clear d6 hb3 HC Hbd
          cases f with
          | true =>
            have HS2 := Lib.hid (show allowedA l (sl.take (k + 1)) who key attr kind = !g.deny from HS.out)
            clear HS
            go_wp2
            go_roundw
            case rel =>
              refine ⟨_, _, _, _, _, _, _, _, _, _, _, _, _, _, _, _, _, _, _, _, _, _, _, _, ⟨k + 1, by omega, ?_, ?_, Hb3.out⟩, rfl⟩
              · rfl
              · rw [HS2.out]
            case measure => simp [intOf]; omega
          | false =>
            have HS2 := Lib.hid (show allowedA l (sl.take (k + 1)) who key attr kind = allowedA l (sl.take k) who key attr kind from HS.out)
            clear HS
            go_wp2
            go_roundw
            case rel =>
              refine ⟨_, _, _, _, _, _, _, _, _, _, _, _, _, _, _, _, _, _, _, _, _, _, _, _, ⟨k + 1, by omega, ?_, ?_, Hb3.out⟩, rfl⟩
              · rfl
              · rw [HS2.out]
            case measure => simp [intOf]; omega
        · have e : k = sl.length := by omega
          subst e
          rw [List.take_length] at *
          have Hb := Lib.hid hb
          clear hb HF2 HL Hg
          have hr := Hr.out
          rw [← hr]
          clear hr Hr
          go_wp2
          go_ret
          exact ⟨rfl, Hb0.out.trans Hb.out⟩
end Go.Proofs.YtljeeehimcdmbaaGreatDoor
end

section
/- The walk of toponymlaw31.AclAllows. No condition. -/
namespace Go.Proofs.YtljeeehimcdmbaaGreatDoor
open Go.RowKit Go.Wd Go.Dir Go.Shelf

theorem few_facts2 {l : List Attr} {cs : List Cls} {gs : List Grant} {who key attr : ByteArray} (h1 : true = fewS l cs) (h2 : true = fewL gs) (h4 : true = shortQ who key attr) :
    l.length < 100000 ∧ (∀ a ∈ l, shortA a) ∧ key.size ≤ 1000000 ∧ gs.length ≤ 30 ∧ ∃ sl : List SG, sgs sl = gs ∧ sl.length = gs.length := by
  simp only [fewS, fewA, fewL, shortQ, Bool.and_eq_true, decide_eq_true_eq, List.all_eq_true, fewT, fewG, eq_comm (a := true)] at h1 h2 h4
  refine ⟨by omega, fun a ha => ⟨by have := h1.1.2 a ha; omega, by have := h1.1.2 a ha; omega⟩, by omega, h2.1, ?_⟩
  obtain ⟨sl, e⟩ := sgs_of gs (fun x hx => by have := h2.2 x hx; omega)
  exact ⟨sl, e, by rw [← e]; exact (sgs_len sl).symm⟩

set_option maxRecDepth 100000 in
set_option maxHeartbeats 1000000 in
theorem allows_any (hawk : ∀ w, Calls Tryz.prog 10 #[] w fun en w' => en = .returned (.bool true) ∧ Below w.heap.size w w')
    (l : List Attr) (cs : List Cls) (v u gv : Value) (gs : List Grant) (who key attr : ByteArray) (kind : Int) (w : World)
    (hs : Sl w v 6 l.length (attrCells l)) (hc : Sl w u 5 cs.length (clsCells cs)) (hg : Sl w gv 7 gs.length (grantCells gs)) :
    Calls Tryz.prog 3 #[.agg #[v, u], gv, .agg #[.string who, .string key, .string attr, .int .i64 kind]] w fun e w' => e = .returned (.bool true) ∧ Bel w w' := by
  have HA := fun w' => Lib.hid (hawk w')
  have HF := fun w' (h : Bel w w') => Lib.hid (few21_any l cs v u w' (hs.bel h) (hc.bel h))
  have HG := fun w' (h : Bel w w') => Lib.hid (few_any gs gv w' (hg.bel h))
  have HS := fun w' => Lib.hid (short_any who key attr kind w')
  clear hawk
  obtain ⟨q, cap, rfl⟩ : ∃ q cap, v = .slice q l.length cap := by obtain ⟨_, q, cap, h, _⟩ := hs; exact ⟨q, cap, h⟩
  obtain ⟨qc, capc, rfl⟩ : ∃ q cap, u = .slice q cs.length cap := by obtain ⟨_, q, cap, h, _⟩ := hc; exact ⟨q, cap, h⟩
  obtain ⟨qg, capg, rfl⟩ : ∃ q cap, gv = .slice q gs.length cap := by obtain ⟨_, q, cap, h, _⟩ := hg; exact ⟨q, cap, h⟩
  have Hs := Lib.hid hs
  have Hg := Lib.hid hg
  clear hs hc hg
  obtain ⟨f1, hf1⟩ : ∃ b, b = fewS l cs := ⟨_, rfl⟩
  obtain ⟨f2, hf2⟩ : ∃ b, b = fewL gs := ⟨_, rfl⟩
  obtain ⟨f4, hf4⟩ : ∃ b, b = shortQ who key attr := ⟨_, rfl⟩
  rw [← hf1] at HF
  rw [← hf2] at HG
  rw [← hf4] at HS
  have HF1 := Lib.hid hf1
  have HF2 := Lib.hid hf2
  have HF4 := Lib.hid hf4
  clear hf1 hf2 hf4
  go_enter Tryz.func3, Tryz.ntmps3
  go_upto_region 1 with fail
  have hbel := ((Bel.refl w).alloc (.cells #[.slice q l.length cap, .slice qc cs.length capc] 25)).alloc (.cells #[.string who, .string key, .string attr, .int .i64 kind] 28)
  have b1 := new_at (w.alloc (.cells #[.slice q l.length cap, .slice qc cs.length capc] 25)) (.cells #[.string who, .string key, .string attr, .int .i64 kind] 28)
  have b0 := old_at (new_at w (.cells #[.slice q l.length cap, .slice qc cs.length capc] 25)) (.cells #[.string who, .string key, .string attr, .int .i64 kind] 28)
  simp only [World.size_alloc] at b0 b1 ⊢
  generalize hW0 : World.alloc (World.alloc _ _) _ = W0 at *
  clear hW0
  have cell : ∀ W, Bel W0 W → W.cell? ⟨w.heap.size, 0, none⟩ = some (.slice q l.length cap) ∧ W.cell? ⟨w.heap.size, 1, none⟩ = some (.slice qc cs.length capc) ∧
      W.cell? ⟨w.heap.size + 1, 0, none⟩ = some (.string who) ∧ W.cell? ⟨w.heap.size + 1, 1, none⟩ = some (.string key) ∧ W.cell? ⟨w.heap.size + 1, 2, none⟩ = some (.string attr) ∧ W.cell? ⟨w.heap.size + 1, 3, none⟩ = some (.int .i64 kind) := fun W h =>
    ⟨cellk (h.at b0) 0 _ rfl, cellk (h.at b0) 1 _ rfl, cellk (h.at b1) 0 _ rfl, cellk (h.at b1) 1 _ rfl, cellk (h.at b1) 2 _ rfl, cellk (h.at b1) 3 _ rfl⟩
  clear b0 b1
  generalize w.heap.size = B at cell ⊢
  have Hbel := Lib.hid hbel
  have Cell := fun W h => Lib.hid (cell W h)
  clear cell hbel
  cases f1 with
  | false =>
    clear HG HS HF1 HF2 HF4
    obtain ⟨x0, x1, -⟩ := (Cell W0 (Bel.refl _)).out
    clear Cell
    go_wp2_with (first | (go_at_call 7; refine (HF _ Hbel.out).out.mono ?_; rintro e w' ⟨rfl, hb1⟩) | (go_at_call 10; refine (HA _).out.mono ?_; rintro e w' ⟨rfl, hb2⟩))
    go_ret
    exact ⟨rfl, (Hbel.out.trans hb1).trans hb2⟩
  | true =>
  cases f2 with
  | false =>
    clear HS HF1 HF2 HF4
    obtain ⟨x0, x1, -⟩ := (Cell W0 (Bel.refl _)).out
    go_wp2_with (first | (go_at_call 7; refine (HF _ Hbel.out).out.mono ?_; rintro e w1 ⟨rfl, hb1⟩) | (go_at_call 8; refine (HG _ (Hbel.out.trans hb1)).out.mono ?_; rintro e w' ⟨rfl, hw⟩; subst hw) | (go_at_call 10; refine (HA _).out.mono ?_; rintro e w3 ⟨rfl, hb3⟩))
    go_ret
    exact ⟨rfl, (Hbel.out.trans hb1).trans hb3⟩
  | true =>
  cases f4 with
  | false =>
    clear HF1 HF2 HF4
    obtain ⟨x0, x1, -⟩ := (Cell W0 (Bel.refl _)).out
    go_wp2_with (first | (go_at_call 7; refine (HF _ Hbel.out).out.mono ?_; rintro e w1 ⟨rfl, hb1⟩; obtain ⟨y0, y1, y2, y3, y4, y5⟩ := (Cell _ hb1).out) | (go_at_call 8; refine (HG _ (Hbel.out.trans hb1)).out.mono ?_; rintro e w' ⟨rfl, hw⟩; subst hw) | (go_at_call 9; refine (HS _).out.mono ?_; rintro e w2 ⟨rfl, hb2⟩) | (go_at_call 10; refine (HA _).out.mono ?_; rintro e w3 ⟨rfl, hb3⟩))
    go_ret
    exact ⟨rfl, ((Hbel.out.trans hb1).trans hb2).trans hb3⟩
  | true =>
    obtain ⟨x0, x1, -⟩ := (Cell W0 (Bel.refl _)).out
    go_upto_region 3 with (first | (go_at_call 7; refine (HF _ Hbel.out).out.mono ?_; rintro e w1 ⟨rfl, hb1⟩; obtain ⟨y0, y1, y2, y3, y4, y5⟩ := (Cell _ hb1).out) | (go_at_call 8; refine (HG _ (Hbel.out.trans hb1)).out.mono ?_; rintro e w' ⟨rfl, hw⟩; subst hw) | (go_at_call 9; refine (HS _).out.mono ?_; rintro e w2 ⟨rfl, hb2⟩))
    obtain ⟨hl, ha, hk, hgl, sl, hsl, hsn⟩ := few_facts2 HF1.out HF2.out HF4.out
    have hb5 : Bel W0 w2 := Bel.trans hb1 hb2
    clear HF HG HS HF1 HF2 HF4 y0 y1 y2 y3 y4 y5 x0 x1 hb2 hb1
    have HW := fun w' (h : Bel W0 w') => Lib.hid (allowed_any l sl who key attr kind (.slice q l.length cap) (.slice qg gs.length capg) qc cs.length capc w' (Hs.out.bel (Hbel.out.trans h)) hl ha hk (by rw [hsl, hsn]; exact Hg.out.bel (Hbel.out.trans h)) (by omega))
    have HP := fun w' (h : Bel W0 w') => Lib.hid (plain_any gs (.slice qg gs.length capg) w' (Hg.out.bel (Hbel.out.trans h)) hgl)
    have HR := fun v' w' (h : Bel W0 w') (h' : Sl w' v' 7 gs.length (grantCells gs)) => Lib.hid (refAllowed_any l sl who key attr kind (.slice q l.length cap) v' qc cs.length capc w' (Hs.out.bel (Hbel.out.trans h)) hl ha hk (by rw [hsl, hsn]; exact h') (by omega))
    generalize allowedA l sl who key attr kind = x at HW HR
    clear hl ha hk hgl hsl hsn Hs Hg
    obtain ⟨z0, z1, z2, z3, z4, z5⟩ := (Cell _ hb5).out
    have HA2 := fun w' => (HA w').out
    cases x with
    | true =>
      go_region_held3 (fun w' => w'.cell? ⟨B, 0, none⟩ = some (.slice q l.length cap) ∧ w'.cell? ⟨B, 1, none⟩ = some (.slice qc cs.length capc) ∧ w'.cell? ⟨B + 1, 0, none⟩ = some (.string who) ∧ w'.cell? ⟨B + 1, 1, none⟩ = some (.string key) ∧ w'.cell? ⟨B + 1, 2, none⟩ = some (.string attr) ∧ w'.cell? ⟨B + 1, 3, none⟩ = some (.int .i64 kind)) (first | exact (Cell _ (by repeat first | assumption | exact Bel.refl _ | refine Bel.alloc ?_ _ | refine Bel.drew ?_)).out | go_keep)
        (first
          | (go_at_call 11; refine (HW _ (by repeat first | assumption | exact Bel.refl _ | refine Bel.alloc ?_ _ | refine Bel.drew ?_)).out.mono ?_; rintro e w6 ⟨rfl, hb6'⟩; have hb6 : Bel W0 w6 := Bel.trans (by repeat first | assumption | exact Bel.refl _ | refine Bel.alloc ?_ _ | refine Bel.drew ?_) hb6')
          | (go_at_call 13; refine (HP _ (by repeat first | assumption | exact Bel.refl _ | refine Bel.alloc ?_ _ | refine Bel.drew ?_)).out.mono ?_; rintro e w7 ⟨u7, rfl, hS7, hb7'⟩; have hb7 : Bel W0 w7 := Bel.trans (by repeat first | assumption | exact Bel.refl _ | refine Bel.alloc ?_ _ | refine Bel.drew ?_) hb7')
          | (go_at_call 12; refine (HR u7 _ (by repeat first | assumption | exact Bel.refl _ | refine Bel.alloc ?_ _ | refine Bel.drew ?_) (hS7.bel (by repeat first | assumption | exact Bel.refl _ | refine Bel.alloc ?_ _ | refine Bel.drew ?_))).out.mono ?_; rintro e w8 ⟨rfl, hb8'⟩; have hb8 : Bel W0 w8 := Bel.trans (by repeat first | assumption | exact Bel.refl _ | refine Bel.alloc ?_ _ | refine Bel.drew ?_) hb8')
          | (go_at_call 10; refine (HA2 _).mono ?_; rintro e w9 ⟨rfl, hb9'⟩; have hb9 : Bel W0 w9 := Bel.trans (by repeat first | assumption | exact Bel.refl _ | refine Bel.alloc ?_ _ | refine Bel.drew ?_) hb9'))
      all_goals (go_wp2; go_ret; exact ⟨rfl, Hbel.out.trans hb9⟩)
    | false =>
      go_region_held3 (fun w' => w'.cell? ⟨B, 0, none⟩ = some (.slice q l.length cap) ∧ w'.cell? ⟨B, 1, none⟩ = some (.slice qc cs.length capc) ∧ w'.cell? ⟨B + 1, 0, none⟩ = some (.string who) ∧ w'.cell? ⟨B + 1, 1, none⟩ = some (.string key) ∧ w'.cell? ⟨B + 1, 2, none⟩ = some (.string attr) ∧ w'.cell? ⟨B + 1, 3, none⟩ = some (.int .i64 kind)) (first | exact (Cell _ (by repeat first | assumption | exact Bel.refl _ | refine Bel.alloc ?_ _ | refine Bel.drew ?_)).out | go_keep)
        (first
          | (go_at_call 11; refine (HW _ (by repeat first | assumption | exact Bel.refl _ | refine Bel.alloc ?_ _ | refine Bel.drew ?_)).out.mono ?_; rintro e w6 ⟨rfl, hb6'⟩; have hb6 : Bel W0 w6 := Bel.trans (by repeat first | assumption | exact Bel.refl _ | refine Bel.alloc ?_ _ | refine Bel.drew ?_) hb6')
          | (go_at_call 13; refine (HP _ (by repeat first | assumption | exact Bel.refl _ | refine Bel.alloc ?_ _ | refine Bel.drew ?_)).out.mono ?_; rintro e w7 ⟨u7, rfl, hS7, hb7'⟩; have hb7 : Bel W0 w7 := Bel.trans (by repeat first | assumption | exact Bel.refl _ | refine Bel.alloc ?_ _ | refine Bel.drew ?_) hb7')
          | (go_at_call 12; refine (HR u7 _ (by repeat first | assumption | exact Bel.refl _ | refine Bel.alloc ?_ _ | refine Bel.drew ?_) (hS7.bel (by repeat first | assumption | exact Bel.refl _ | refine Bel.alloc ?_ _ | refine Bel.drew ?_))).out.mono ?_; rintro e w8 ⟨rfl, hb8'⟩; have hb8 : Bel W0 w8 := Bel.trans (by repeat first | assumption | exact Bel.refl _ | refine Bel.alloc ?_ _ | refine Bel.drew ?_) hb8')
          | (go_at_call 10; refine (HA2 _).mono ?_; rintro e w9 ⟨rfl, hb9'⟩; have hb9 : Bel W0 w9 := Bel.trans (by repeat first | assumption | exact Bel.refl _ | refine Bel.alloc ?_ _ | refine Bel.drew ?_) hb9'))
      all_goals (go_wp2; go_ret; exact ⟨rfl, Hbel.out.trans hb9⟩)
end Go.Proofs.YtljeeehimcdmbaaGreatDoor
end
