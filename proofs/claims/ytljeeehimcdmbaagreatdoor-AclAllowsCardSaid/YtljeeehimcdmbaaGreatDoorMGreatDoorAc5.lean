/- The walk of toponymlaw31.fits. No condition. -/
import Derived.Test.YtljeeehimcdmbaaGreatDoorMGreatDoorAc4
namespace Go.Proofs.YtljeeehimcdmbaaGreatDoor
open Go.RowKit Go.Wd Go.Dir Go.Shelf

def attrP (l : List Attr) (attr : ByteArray) (g : Grant) : Bool := eqs g.attr ⟨#[]⟩ || (eqs g.attr attr || isA l attr g.attr)
def fits31 (l : List Attr) (who key attr : ByteArray) (kind : Int) (g : Grant) : Bool :=
  meant who key g && (attrP l attr g && (oneKind kind && (landI g.kinds kind != 0 && Dk.underR key g.below)))

theorem fits31_eq (l : List Attr) (who key attr : ByteArray) (kind : Int) (g : Grant) : fits31 l who key attr kind g = (oneKind kind && fitsG l who key attr kind g) := by
  unfold fits31 fitsG attrP
  cases meant who key g <;> cases oneKind kind <;> cases (landI g.kinds kind != 0) <;> cases (Dk.underR key g.below) <;> cases (eqs g.attr ⟨#[]⟩ || (eqs g.attr attr || isA l attr g.attr)) <;> rfl

set_option maxHeartbeats 2000000 in
theorem fits31_any (g : Grant) (who key attr : ByteArray) (kind : Int) (l : List Attr) (v : Value) (q2 : Option Addr) (m2 cap2 : Nat) (w : World)
    (hs : Sl w v 6 l.length (attrCells l)) (hl : l.length < 100000) (ha : ∀ a ∈ l, shortA a) (hk : key.size ≤ 1000000) (hgb : g.below.size ≤ 1000000) :
    Calls Tryz.prog 18 #[.agg #[v, .slice q2 m2 cap2], gval g, .agg #[.string who, .string key, .string attr, .int .i64 kind]] w
      fun e w' => e = .returned (.bool (fits31 l who key attr kind g)) ∧ Bel w w' := by
  obtain ⟨gw, gb, ga, all, self, ks, dn⟩ := g
  have HU := fun w' => Lib.hid (Dk.under_any key gb hk hgb w')
  have HI := fun w' (h : Bel w w') => Lib.hid (is_any l v attr ga w' (hs.bel h) hl ha)
  obtain ⟨q, cap, rfl⟩ : ∃ q cap, v = .slice q l.length cap := by obtain ⟨_, q, cap, h, _⟩ := hs; exact ⟨q, cap, h⟩
  clear hs ha
  unfold gval
  dsimp only at *
  obtain ⟨r, hr⟩ : ∃ r, r = fits31 l who key attr kind ⟨gw, gb, ga, all, self, ks, dn⟩ := ⟨_, rfl⟩
  rw [← hr]
  unfold fits31 landI at hr
  obtain ⟨m, hm⟩ : ∃ m, m = meant who key ⟨gw, gb, ga, all, self, ks, dn⟩ := ⟨_, rfl⟩
  rw [← hm] at hr
  obtain ⟨p, hp⟩ : ∃ p, p = attrP l attr ⟨gw, gb, ga, all, self, ks, dn⟩ := ⟨_, rfl⟩
  rw [← hp] at hr
  unfold meant at hm
  unfold attrP at hp
  dsimp only at hm hr hp
  have Hm := Lib.hid hm
  have Hp := Lib.hid hp
  have Hr := Lib.hid hr
  clear hm hr hp
  go_enter Tryz.func18, Tryz.ntmps18
  go_upto_region 1 with fail
  have hbel := (((Bel.refl w).alloc (.cells #[.slice q l.length cap, .slice q2 m2 cap2] 25)).alloc (.cells #[.string gw, .string gb, .string ga, .bool all, .bool self, .int .i64 ks, .bool dn] 52)).alloc (.cells #[.string who, .string key, .string attr, .int .i64 kind] 28)
  have b2 := new_at ((w.alloc (.cells #[.slice q l.length cap, .slice q2 m2 cap2] 25)).alloc (.cells #[.string gw, .string gb, .string ga, .bool all, .bool self, .int .i64 ks, .bool dn] 52)) (.cells #[.string who, .string key, .string attr, .int .i64 kind] 28)
  have b1 := old_at (new_at (w.alloc (.cells #[.slice q l.length cap, .slice q2 m2 cap2] 25)) (.cells #[.string gw, .string gb, .string ga, .bool all, .bool self, .int .i64 ks, .bool dn] 52)) (.cells #[.string who, .string key, .string attr, .int .i64 kind] 28)
  have b0 := old_at (old_at (new_at w (.cells #[.slice q l.length cap, .slice q2 m2 cap2] 25)) (.cells #[.string gw, .string gb, .string ga, .bool all, .bool self, .int .i64 ks, .bool dn] 52)) (.cells #[.string who, .string key, .string attr, .int .i64 kind] 28)
  simp only [World.size_alloc] at b0 b1 b2 ⊢
  generalize hW0 : World.alloc _ _ = W0 at *
  clear hW0
  have g0 : W0.cell? ⟨w.heap.size + 1, 0, none⟩ = some (.string gw) := cellk b1 0 _ rfl
  have g1 : W0.cell? ⟨w.heap.size + 1, 1, none⟩ = some (.string gb) := cellk b1 1 _ rfl
  have g2 : W0.cell? ⟨w.heap.size + 1, 2, none⟩ = some (.string ga) := cellk b1 2 _ rfl
  have g3 : W0.cell? ⟨w.heap.size + 1, 3, none⟩ = some (.bool all) := cellk b1 3 _ rfl
  have g4 : W0.cell? ⟨w.heap.size + 1, 4, none⟩ = some (.bool self) := cellk b1 4 _ rfl
  have g5 : W0.cell? ⟨w.heap.size + 1, 5, none⟩ = some (.int .i64 ks) := cellk b1 5 _ rfl
  have k0 : W0.cell? ⟨w.heap.size + 1 + 1, 0, none⟩ = some (.string who) := cellk b2 0 _ rfl
  have k1 : W0.cell? ⟨w.heap.size + 1 + 1, 1, none⟩ = some (.string key) := cellk b2 1 _ rfl
  have k2 : W0.cell? ⟨w.heap.size + 1 + 1, 2, none⟩ = some (.string attr) := cellk b2 2 _ rfl
  have k3 : W0.cell? ⟨w.heap.size + 1 + 1, 3, none⟩ = some (.int .i64 kind) := cellk b2 3 _ rfl
  have s0 : W0.cell? ⟨w.heap.size, 0, none⟩ = some (.slice q l.length cap) := cellk b0 0 _ rfl
  clear b0 b1 b2
  have Hbel := Lib.hid hbel
  clear hbel
  have e0 : ∀ x : ByteArray, (x.toList == x.toList) = true := fun x => by simp
  go_cut [7] from 10 to 44 (fun s7 wx => s7 = .bool m ∧ wx = W0)
  case first =>
    clear g1 g2 g5 k2 k3 s0 HU HI Hp Hr
    cases all
    · cases self
      · by_cases e : who = gw
        · subst e
          have e0 := e0 who
          obtain rfl : m = true := by rw [Hm.out]; simp [eqs]
          clear Hm
          go_wp2
          go_meet
          exact ⟨rfl, rfl⟩
        · obtain ⟨e0, e1, e2⟩ := eqs_no e
          obtain rfl : m = false := by rw [Hm.out, e2]; rfl
          clear Hm e e2
          go_wp2
          go_meet
          exact ⟨rfl, rfl⟩
      · by_cases e : who = ⟨#[]⟩
        · subst e
          obtain rfl : m = false := by rw [Hm.out, eqs_self]; rfl
          clear Hm
          go_wp2
          go_meet
          exact ⟨rfl, rfl⟩
        · obtain ⟨n1, n2, n3⟩ := ne_empty e
          obtain ⟨-, -, e2⟩ := eqs_no e
          by_cases e' : who = key
          · subst e'
            have e0 := e0 who
            obtain rfl : m = true := by rw [Hm.out, e2, eqs_self]; rfl
            clear Hm e e2
            go_wp2
            go_meet
            exact ⟨rfl, rfl⟩
          · obtain ⟨k0, k1, k2⟩ := eqs_no e'
            obtain rfl : m = false := by rw [Hm.out, e2, k2]; rfl
            clear Hm e e2 e' k2
            go_wp2
            go_meet
            exact ⟨rfl, rfl⟩
    · obtain rfl : m = true := by rw [Hm.out]; rfl
      clear Hm
      go_wp2
      go_meet
      exact ⟨rfl, rfl⟩
  case rest =>
    obtain ⟨rfl, rfl⟩ := hcut
    clear Hm g0 g3 g4 k0
    go_upto_region 2 with fail
    go_cut [8] from 45 to 63 (fun s8 wx => s8 = .bool p ∧ Bel wc wx)
    case first =>
      clear g1 g5 k1 k3 HU Hr
      generalize isA l attr ga = ia at *
      by_cases e : ga = ⟨#[]⟩
      · subst e
        obtain rfl : p = true := by rw [Hp.out, eqs_self]; rfl
        clear Hp HI
        go_wp2
        go_meet
        exact ⟨rfl, Bel.refl _⟩
      obtain ⟨n1, n2, n3⟩ := ne_empty e
      obtain ⟨-, -, e2⟩ := eqs_no e
      have hp := Hp.out
      rw [e2, Bool.false_or] at hp
      clear Hp e2
      by_cases e' : ga = attr
      · subst e'
        obtain rfl : p = true := by rw [hp, eqs_self]; rfl
        have e0 := e0 ga
        clear hp HI
        go_wp2
        go_meet
        exact ⟨rfl, Bel.refl _⟩
      obtain ⟨k0, k1, kk⟩ := eqs_no e'
      rw [kk, Bool.false_or] at hp
      subst hp
      clear kk
      go_wp2_with fail
      refine (HI _ Hbel.out).out.mono ?_
      rintro e w' ⟨rfl, hb⟩
      have Hb := Lib.hid hb
      clear hb HI g2 k2 s0
      go_wp2
      go_meet
      exact ⟨rfl, Hb.out⟩
    case rest =>
      obtain ⟨rfl, hw⟩ := hcut
      clear s0 g2 k2 Hp HI
      have g1 := hw.cell g1
      have g5 := hw.cell g5
      have k1 := hw.cell k1
      have k3 := hw.cell k3
      have hbel := Hbel.out.trans hw
      clear Hbel hw
      have Hbel := Lib.hid hbel
      clear hbel
      obtain ⟨o, ho⟩ : ∃ o, o = oneKind kind := ⟨_, rfl⟩
      rw [← ho] at Hr
      have Ho := Lib.hid ho
      clear ho
      go_upto_region 3 with fail
      go_cut [9] from 64 to 81 (fun s9 wx => s9 = .bool o ∧ wx = wc)
      case first =>
        clear g1 g5 k1 HU Hr Hbel
        by_cases h1 : kind = 1
        · subst h1
          obtain rfl : o = true := Ho.out
          clear Ho
          go_wp2
          go_meet
          exact ⟨rfl, rfl⟩
        by_cases h2 : kind = 2
        · subst h2
          obtain rfl : o = true := Ho.out
          clear Ho
          go_wp2
          go_meet
          exact ⟨rfl, rfl⟩
        by_cases h4 : kind = 4
        · subst h4
          obtain rfl : o = true := Ho.out
          clear Ho
          go_wp2
          go_meet
          exact ⟨rfl, rfl⟩
        by_cases h8 : kind = 8
        · subst h8
          obtain rfl : o = true := Ho.out
          clear Ho
          go_wp2
          go_meet
          exact ⟨rfl, rfl⟩
        obtain rfl : o = false := by rw [Ho.out]; simp [oneKind, h1, h2, h4, h8]
        clear Ho
        go_wp2
        go_meet
        exact ⟨by simp [h1, h2, h4, h8], rfl⟩
      case rest =>
        obtain ⟨rfl, rfl⟩ := hcut
        cases m
        · obtain rfl : r = false := Hr.out
          clear HU Ho Hr g1 g5 k1 k3
          go_wp2
          go_ret
          exact ⟨rfl, Hbel.out⟩
        cases p
        · obtain rfl : r = false := Hr.out
          clear HU Ho Hr g1 g5 k1 k3
          go_wp2
          go_ret
          exact ⟨rfl, Hbel.out⟩
        cases o
        · obtain rfl : r = false := Hr.out
          clear HU Ho Hr g1 g5 k1 k3
          go_wp2
          go_ret
          exact ⟨rfl, Hbel.out⟩
        clear Ho
        by_cases hand : bits BinOp.and IntKind.i64 ks kind = 0
        · have d1 : (bits BinOp.and IntKind.i64 ks kind != 0) = false := by rw [hand]; rfl
          obtain rfl : r = false := by rw [Hr.out, d1]; rfl
          clear d1 HU Hr g1 k1
          go_wp2
          go_ret
          exact ⟨rfl, Hbel.out⟩
        have d1 : (bits BinOp.and IntKind.i64 ks kind != 0) = true := by simpa using hand
        have hr := Hr.out
        rw [d1] at hr
        simp only [Bool.true_and] at hr
        clear Hr
        subst hr
        go_wp2_with fail
        refine (HU _).out.mono ?_
        rintro e w' ⟨rfl, hb⟩
        clear HU
        go_wp2
        go_ret
        exact ⟨rfl, Hbel.out.trans hb⟩
end Go.Proofs.YtljeeehimcdmbaaGreatDoor
