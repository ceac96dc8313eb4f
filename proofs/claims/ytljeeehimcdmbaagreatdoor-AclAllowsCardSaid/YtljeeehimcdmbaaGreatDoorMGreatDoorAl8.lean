/- The walk of toponymref31.fits. No condition. -/
import Derived.Test.YtljeeehimcdmbaaGreatDoorMGreatDoorAl7
import Derived.Deep.CutBlock
namespace Go.Proofs.YtljeeehimcdmbaaGreatDoor
open Go.RowKit Go.Wd Go.Dir Go.Shelf
/-- The kind's bit, by shifts. -/
def bitR (ks kind : Int) : Int := if kind = 1 then ks else if kind = 2 then ks / 2 else if kind = 4 then ks / 2 / 2 else ks / 2 / 2 / 2
theorem bit_eq (ks kind : Int) (hk : oneKind kind = true) : (landI ks kind != 0) = decide (bitR ks kind % 2 = 1) := by
  unfold oneKind at hk
  rw [decide_eq_true_eq] at hk
  rcases hk with rfl | rfl | rfl | rfl
  · rw [land_ne ks 1 0 (by decide) (by decide)]
    exact decide_eq_decide.2 (by unfold bitR; simp)
  · rw [land_ne ks 2 1 (by decide) (by decide)]
    exact decide_eq_decide.2 (by unfold bitR; simp)
  · rw [land_ne ks 4 2 (by decide) (by decide)]
    exact decide_eq_decide.2 (by unfold bitR; simp; omega)
  · rw [land_ne ks 8 3 (by decide) (by decide)]
    exact decide_eq_decide.2 (by unfold bitR; simp; omega)
theorem meant_true {who key : ByteArray} {g : Grant} (h : meant who key g = true) : g.all = true ∨ (g.all = false ∧ g.self = true ∧ ¬ who = ⟨#[]⟩ ∧ who = key) ∨ (g.all = false ∧ g.self = false ∧ who = g.who) := by
  unfold meant at h
  cases ha : g.all
  · cases hs : g.self
    · rw [ha, hs] at h
      right; right
      refine ⟨rfl, rfl, eqs_true (by simpa using h)⟩
    · rw [ha, hs] at h
      right; left
      simp only [Bool.false_or, Bool.true_and, Bool.not_true, Bool.and_false, Bool.false_and, Bool.or_false, Bool.and_eq_true, Bool.not_eq_true'] at h
      refine ⟨rfl, rfl, fun e => ?_, eqs_true h.2⟩
      rw [e, eqs_self] at h
      cases h.1
  · exact .inl rfl

set_option maxRecDepth 100000 in
set_option maxHeartbeats 3200000 in
theorem fitsR_any (g : Grant) (who key attr : ByteArray) (kind : Int) (hkind : oneKind kind = true) (l : List Attr) (v : Value) (q2 : Option Addr) (m2 cap2 : Nat) (w : World)
    (hs : Sl w v 6 l.length (attrCells l)) (hl : l.length < 100000) (ha : ∀ a ∈ l, shortA a) (hk : key.size ≤ 1000000) (hgb : g.below.size ≤ 1000000) :
    Calls Tryz.prog 26 #[.agg #[v, .slice q2 m2 cap2], .agg #[.string g.who, .string g.below, .string g.attr, .bool g.all, .bool g.self, .int .i64 g.kinds, .bool g.deny], .string who, .string key, .string attr, .int .i64 kind]
      w fun e w' => e = .returned (.bool (fitsG l who key attr kind g)) ∧ Bel w w' := by
  have HU := fun w' => Lib.hid (Dk.refUnder_any key g.below hk hgb w')
  have HI := fun w' (h : Bel w w') => Lib.hid (is20_any l v attr g.attr w' (hs.bel h) (by omega) ha)
  obtain ⟨q, cap, rfl⟩ : ∃ q cap, v = .slice q l.length cap := by obtain ⟨_, q, cap, h, _⟩ := hs; exact ⟨q, cap, h⟩
  clear hs ha hk hgb
  obtain ⟨r, hr⟩ : ∃ r, r = fitsG l who key attr kind g := ⟨_, rfl⟩
  rw [← hr]
  unfold fitsG at hr
  rw [bit_eq g.kinds kind hkind] at hr
  have HM := Lib.hid (@meant_true who key g)
  have HM0 : Hid (meant who key g = false → r = false) := Lib.hid fun h => by rw [hr, h]; rfl
  have HR := Lib.hid fun (h : meant who key g = true) => show r = (decide (bitR g.kinds kind % 2 = 1) && (Dk.underR key g.below && (eqs g.attr ⟨#[]⟩ || (eqs g.attr attr || isA l attr g.attr)))) from by rw [hr, h]; rfl
  clear hr
  obtain ⟨gw, gb, ga, all, self, ks, dn⟩ := g
  dsimp only at HM HM0 HR HU HI ⊢
  go_enter Tryz.func26, Tryz.ntmps26
  go_upto_block 0 with fail
  have hbel := ((Bel.refl w).alloc (.cells #[.slice q l.length cap, .slice q2 m2 cap2] 25)).alloc (.cells #[.string gw, .string gb, .string ga, .bool all, .bool self, .int .i64 ks, .bool dn] 79)
  have b1 := new_at (w.alloc (.cells #[.slice q l.length cap, .slice q2 m2 cap2] 25)) (.cells #[.string gw, .string gb, .string ga, .bool all, .bool self, .int .i64 ks, .bool dn] 79)
  have b0 := old_at (new_at w (.cells #[.slice q l.length cap, .slice q2 m2 cap2] 25)) (.cells #[.string gw, .string gb, .string ga, .bool all, .bool self, .int .i64 ks, .bool dn] 79)
  simp only [World.size_alloc] at b0 b1 ⊢
  generalize hW0 : World.alloc _ _ = W0 at *
  clear hW0
  have g0 : W0.cell? ⟨w.heap.size + 1, 0, none⟩ = some (.string gw) := cellk b1 0 _ rfl
  have g1 : W0.cell? ⟨w.heap.size + 1, 1, none⟩ = some (.string gb) := cellk b1 1 _ rfl
  have g2 : W0.cell? ⟨w.heap.size + 1, 2, none⟩ = some (.string ga) := cellk b1 2 _ rfl
  have g3 : W0.cell? ⟨w.heap.size + 1, 3, none⟩ = some (.bool all) := cellk b1 3 _ rfl
  have g4 : W0.cell? ⟨w.heap.size + 1, 4, none⟩ = some (.bool self) := cellk b1 4 _ rfl
  have g5 : W0.cell? ⟨w.heap.size + 1, 5, none⟩ = some (.int .i64 ks) := cellk b1 5 _ rfl
  have s0 : W0.cell? ⟨w.heap.size, 0, none⟩ = some (.slice q l.length cap) := cellk b0 0 _ rfl
  generalize w.heap.size = P0 at g0 g1 g2 g3 g4 g5 s0 ⊢
  clear b0 b1
  have Hbel := Lib.hid hbel
  clear hbel
  have E0 : ∀ x : ByteArray, (x.toList == x.toList) = true := fun x => by simp
  cases hm : meant who key ⟨gw, gb, ga, all, self, ks, dn⟩ with
  | false =>
    obtain rfl := HM0.out hm
    clear HM0 HM HR HU HI g1 g2 g5 s0
    cases all
    · cases self
      · have e : ¬ who = gw := fun e => by
          rw [e] at hm
          simp [meant, eqs_self] at hm
        obtain ⟨e0, e1, e2⟩ := eqs_no e
        clear e e2 hm E0
        go_wp2
        go_ret
        exact ⟨rfl, Hbel.out⟩
      · by_cases e : who = ⟨#[]⟩
        · subst e
          clear hm E0
          go_wp2
          go_ret
          exact ⟨rfl, Hbel.out⟩
        · have e' : ¬ who = key := fun e' => by
            rw [← e'] at hm
            have := (eqs_no e).2.2
            simp [meant, eqs_self, this] at hm
          obtain ⟨n1, n2, n3⟩ := ne_empty e
          obtain ⟨k0, k1, k2⟩ := eqs_no e'
          clear e e' k2 hm E0
          go_wp2
          go_ret
          exact ⟨rfl, Hbel.out⟩
    · simp [meant] at hm
  | true =>
    have hd := HM.out hm
    have hr := HR.out hm
    clear HM HR HM0 hm
    have H1 := Lib.hid hr
    clear hr
    generalize Dk.underR key gb = u at HU H1
    generalize isA l attr ga = ia at HI H1
    go_cut [12] from 15 to 31 (fun s12 wx => s12 = .bool false ∧ wx = W0)
    case first =>
      clear HU HI H1 g1 g2 g5 s0 Hbel
      rcases hd with hd | hd | hd
      · obtain rfl := hd
        go_wp2
        go_meet
        exact ⟨rfl, rfl⟩
      · obtain ⟨rfl, rfl, hne, rfl⟩ := hd
        obtain ⟨n1, n2, n3⟩ := ne_empty hne
        have e0 := E0 who
        clear hne E0
        go_wp2
        go_meet
        exact ⟨rfl, rfl⟩
      · obtain ⟨rfl, rfl, rfl⟩ := hd
        have e0 := E0 who
        clear E0
        go_wp2
        go_meet
        exact ⟨rfl, rfl⟩
    case rest =>
      obtain ⟨rfl, rfl⟩ := hcut
      clear hd g0 g3 g4
      have hbel := Hbel.out
      clear Hbel
      have Hbel := Lib.hid hbel
      obtain ⟨p, hp⟩ : ∃ p, p = (eqs ga ⟨#[]⟩ || (eqs ga attr || ia)) := ⟨_, rfl⟩
      rw [← hp] at H1
      have Hp := Lib.hid hp
      clear hp
      cases u with
      | false =>
        obtain rfl : r = false := by rw [H1.out]; simp
        clear H1 Hp HI g2 g5 s0 E0
        go_wp2_with (go_at_call 40; refine (HU _).out.mono ?_; rintro e w' ⟨rfl, rfl⟩)
        go_ret
        exact ⟨rfl, hbel⟩
      | true =>
      go_upto_region 9 with (go_at_call 40; refine (HU _).out.mono ?_; rintro e w3 ⟨rfl, hw3⟩; subst hw3)
      clear HU g1
      have HI1 := HI _ hbel
      clear HI hbel
      go_cut [54] from 37 to 53 (fun s54 wx => s54 = .bool (!p) ∧ Bel w3 wx)
      case first =>
        clear H1 g5 Hbel
        by_cases ea : ga = ⟨#[]⟩
        · subst ea
          obtain rfl : p = true := by rw [Hp.out, eqs_self]; rfl
          clear HI1 Hp E0
          go_wp2
          go_meet
          exact ⟨rfl, Bel.refl _⟩
        obtain ⟨n1, n2, n3⟩ := ne_empty ea
        by_cases eb : attr = ga
        · subst eb
          have e0 := E0 attr
          obtain rfl : p = true := by rw [Hp.out, eqs_self, Bool.true_or, Bool.or_true]
          clear HI1 Hp E0 ea
          go_wp2
          go_meet
          exact ⟨rfl, Bel.refl _⟩
        obtain ⟨k0, k1, -⟩ := eqs_no eb
        have hp := Hp.out
        obtain ⟨-, -, e2⟩ := eqs_no ea
        obtain ⟨-, -, e3⟩ := eqs_no (fun e : ga = attr => eb e.symm)
        rw [e2, e3, Bool.false_or, Bool.false_or] at hp
        subst hp
        clear ea eb e2 e3 E0 Hp
        go_wp2_with fail
        refine HI1.out.mono ?_
        rintro e w2 ⟨rfl, hb2⟩
        have Hb2 := Lib.hid hb2
        clear hb2 HI1 g2 s0
        go_wp2
        go_meet
        exact ⟨rfl, Hb2.out⟩
      case rest =>
        obtain ⟨rfl, hb2⟩ := hcut
        have hr := H1.out
        have Hb := Lib.hid (Hbel.out.trans hb2)
        replace g5 := hb2.cell g5
        clear H1 HI1 Hp Hbel g2 s0 hb2 E0
        cases p with
        | false =>
          obtain rfl : r = false := by rw [hr]; simp
          clear hr
          go_wp2
          go_ret
          exact ⟨rfl, Hb.out⟩
        | true =>
        rw [Bool.and_true, Bool.and_true] at hr
        have hk : kind = 1 ∨ kind = 2 ∨ kind = 4 ∨ kind = 8 := by unfold oneKind at hkind; exact of_decide_eq_true hkind
        have hr : r = decide (bits BinOp.and IntKind.i64 (bitR ks kind) 1 = 1) := by rw [hr, land_one]
        have Hr := Lib.hid hr
        clear hr hkind
        go_wp2
        clear g5
        go_loopw [13, 14] (fun b i wr => wc = wr ∧ ((i = .int .i64 1 ∧ b = .int .i64 ks) ∨ (2 ≤ kind ∧ i = .int .i64 2 ∧ b = .int .i64 (ks / 2)) ∨ (4 ≤ kind ∧ i = .int .i64 4 ∧ b = .int .i64 (ks / 2 / 2)) ∨ (8 ≤ kind ∧ i = .int .i64 8 ∧ b = .int .i64 (ks / 2 / 2 / 2)))) (fun _ i _ => 16 - (intOf i).toNat)
        case atStart => exact ⟨rfl, .inl ⟨rfl, rfl⟩⟩
        case round =>
          obtain ⟨rfl, hrel⟩ := hrel
          rcases hk with rfl | rfl | rfl | rfl
          · rcases hrel with ⟨rfl, rfl⟩ | ⟨h, _⟩ | ⟨h, _⟩ | ⟨h, _⟩ <;> first | omega | skip
            have hr : r = decide (bits BinOp.and IntKind.i64 ks 1 = 1) := Hr.out
            subst hr
            clear Hr
            go_wp2
            go_ret
            exact ⟨rfl, Hb.out⟩
          · rcases hrel with ⟨rfl, rfl⟩ | ⟨h, rfl, rfl⟩ | ⟨h, _⟩ | ⟨h, _⟩ <;> first | omega | skip
            · go_wp2
              go_roundw
              case rel => exact ⟨trivial, .inr (.inl ⟨by omega, by go_num, by go_num⟩)⟩
              case measure => simp [intOf]
            · have hr : r = decide (bits BinOp.and IntKind.i64 (ks / 2) 1 = 1) := Hr.out
              subst hr
              clear Hr
              go_wp2
              go_ret
              exact ⟨rfl, Hb.out⟩
          · rcases hrel with ⟨rfl, rfl⟩ | ⟨h, rfl, rfl⟩ | ⟨h, rfl, rfl⟩ | ⟨h, _⟩ <;> first | omega | skip
            · go_wp2
              go_roundw
              case rel => exact ⟨trivial, .inr (.inl ⟨by omega, by go_num, by go_num⟩)⟩
              case measure => simp [intOf]
            · go_wp2
              go_roundw
              case rel => exact ⟨trivial, .inr (.inr (.inl ⟨by omega, by go_num, by go_num⟩))⟩
              case measure => simp [intOf]
            · have hr : r = decide (bits BinOp.and IntKind.i64 (ks / 2 / 2) 1 = 1) := Hr.out
              subst hr
              clear Hr
              go_wp2
              go_ret
              exact ⟨rfl, Hb.out⟩
          · rcases hrel with ⟨rfl, rfl⟩ | ⟨h, rfl, rfl⟩ | ⟨h, rfl, rfl⟩ | ⟨h, rfl, rfl⟩ <;> first | omega | skip
            · go_wp2
              go_roundw
              case rel => exact ⟨trivial, .inr (.inl ⟨by omega, by go_num, by go_num⟩)⟩
              case measure => simp [intOf]
            · go_wp2
              go_roundw
              case rel => exact ⟨trivial, .inr (.inr (.inl ⟨by omega, by go_num, by go_num⟩))⟩
              case measure => simp [intOf]
            · go_wp2
              go_roundw
              case rel => exact ⟨trivial, .inr (.inr (.inr ⟨by omega, by go_num, by go_num⟩))⟩
              case measure => simp [intOf]
            · have hr : r = decide (bits BinOp.and IntKind.i64 (ks / 2 / 2 / 2) 1 = 1) := Hr.out
              subst hr
              clear Hr
              go_wp2
              go_ret
              exact ⟨rfl, Hb.out⟩
end Go.Proofs.YtljeeehimcdmbaaGreatDoor
