/- AclViews: parts of its proof. No condition. -/
import Derived.Test.YtljeeehimcdmbaaGreatDoorMGreatDoorVw2
import Derived.StillTailTactics
import Derived.Sort.AtCall
section
/- The walk of toponymref31.View. No condition. -/
namespace Go.Proofs.YtljeeehimcdmbaaGreatDoor
open Go.RowKit Go.Wd Go.Dir Go.Shelf Go.Rq
open Go.Proofs.YtljeeehimcdmbaaGreatDoor.En (strC Vls Vls.none Vls.cells Pr Pr.none Pr.cells Hd.none hd_at pr_at vls_at)

def sees (l : List Attr) (gs : List SG) (who key : ByteArray) (kind : Int) (z : Vls × List ByteArray) : Bool := allowedA l gs who key z.1.name kind
theorem seen_map (l : List Attr) (gs : List SG) (who key : ByteArray) (kind : Int) (ys : List (Vls × List ByteArray)) : (ys.filter (sees l gs who key kind)).map (fun z => ((z.1.name, z.2) : At)) = seen l gs who key kind (ys.map fun z => (z.1.name, z.2)) := by
  unfold seen
  rw [List.filter_map]
  rfl
/-- What out holds behind k rounds. -/
def BRow (w : World) (base : Nat) (nm : Value) (O : Nat) (us : List (Vls × List ByteArray)) : Prop := ∃ y : Value, w.heap[O]? = some (.cells #[nm, y] 42) ∧ w.ownsRow base 59 2 y us.length (us.flatMap fun z => z.1.cells)
theorem BRow.bel {w w' : World} {base : Nat} {nm : Value} {O : Nat} {us : List (Vls × List ByteArray)} (h : BRow w base nm O us) (hb : Bel w w') : BRow w' base nm O us := by
  obtain ⟨y, h1, h2⟩ := h
  exact ⟨y, hb.at h1, own_bel h2 hb⟩
theorem brow_next {w wr w4 w5 : World} {B O base : Nat} {nm y v' : Value} {us : List (Vls × List ByteArray)} {z : Vls × List ByteArray} {o0 o1 o2 : Obj}
    (hB : B = w.heap.size) (hOB : B + 1 + 1 < O) (hO9 : O < base) (hst : Stay w wr B o0 o1 o2 base) (hO : wr.heap[O]? = some (.cells #[nm, y] 42)) (hown : wr.ownsRow base 59 2 y us.length (us.flatMap fun z => z.1.cells))
    (hb4 : Bel wr w4) (hown' : w5.ownsRow base 59 2 v' (us.length + 1) ((us.flatMap fun z => z.1.cells) ++ z.1.cells)) (hg : w4.grownBy w5 y.ownBlock) :
    BRow (w5.setCell ⟨O, 1, none⟩ v') base nm O (us ++ [z]) ∧ Stay w (w5.setCell ⟨O, 1, none⟩ v') B o0 o1 o2 base := by
  have hO5 := out_kept9 hO hown hO9 hb4 hg
  have hg2 := grown_set w5 ⟨O, 1, none⟩ v'
  refine ⟨⟨v', set_o3 hO5 _, ?_⟩, ?_⟩
  · rw [List.flatMap_append, List.length_append]
    have := ownsRow_setCell_below hown' (a := ⟨O, 1, none⟩) (by simpa using hO9) v'
    simpa using this
  · exact ((hst.bel hb4).grow hB hg (fun j e => by have := (hown.lt j e).1; omega)).grow hB hg2 (fun j e => by cases e; exact hOB)

set_option maxRecDepth 100000 in
set_option maxHeartbeats 4000000 in
theorem refView_any (l : List Attr) (gs : List SG) (who key : ByteArray) (kind : Int) (v gv : Value) (q2 : Option Addr) (m2 cap2 : Nat) (nh ah : Hd) (ns : List (List Pr)) (atr : List At) (w0 w : World)
    (hs : Sl w v 6 l.length (attrCells l)) (hl : l.length < 100000) (ha : ∀ a ∈ l, shortA a) (hk : key.size ≤ 1000000) (hg : Sl w gv 7 gs.length (grantCells (sgs gs))) (hgl : gs.length ≤ 30)
    (hn : NameIs w0 nh ns) (hna : AttrsIs w0 ah atr) (hbw : Bel w0 w) (s3 : atr.length ≤ 1000) :
    Calls Tryz.prog 16 #[.agg #[v, .slice q2 m2 cap2], gv, .string who, .string key, .agg #[nh.val, ah.val], .int .i64 kind] w fun e w' =>
      ∃ nh' ah' : Hd, e = .returned (.tuple #[.agg #[nh'.val, ah'.val], .bool (allowedA l gs who key ⟨#[]⟩ kind)]) ∧ Bel w w' ∧ ∀ W row, Bel w0 W → w'.grownBy W row → Other w' 59 row →
        NameIs W nh' (if allowedA l gs who key ⟨#[]⟩ kind then ns else []) ∧ AttrsIs W ah' (if allowedA l gs who key ⟨#[]⟩ kind then seen l gs who key kind atr else []) := by
  have HW := fun attr w' (h : Bel w w') => Lib.hid (refAllowed_any l gs who key attr kind v gv q2 m2 cap2 w' (hs.bel h) hl ha hk (hg.bel h) hgl)
  obtain ⟨q, cap, rfl⟩ : ∃ q cap, v = .slice q l.length cap := by obtain ⟨_, q, cap, h, _⟩ := hs; exact ⟨q, cap, h⟩
  obtain ⟨qg, capg, rfl⟩ : ∃ q cap, gv = .slice q gs.length cap := by obtain ⟨_, q, cap, h, _⟩ := hg; exact ⟨q, cap, h⟩
  clear hs hl ha hk hg hgl
  have Hn := Lib.hid hn
  have Hbw := Lib.hid hbw
  obtain ⟨nq, nn, nc⟩ := nh
  obtain ⟨aq, an, ac⟩ := ah
  obtain ⟨ys, rfl, e2, hy2, hy3⟩ := hna
  obtain rfl : an = ys.length := e2
  have HW0 := HW ⟨#[]⟩
  generalize allowedA l gs who key ⟨#[]⟩ kind = ok at HW0 ⊢
  unfold Hd.val
  dsimp only
  have Hy2 := Lib.hid hy2
  have Hy3 := Lib.hid hy3
  have S3 := Lib.hid s3
  clear hy2 hy3 s3 hn hbw
  go_enter Tryz.func16, Tryz.ntmps16
  go_upto_region 1 with fail
  have hbel := (((Bel.refl w).alloc (.cells #[.slice q l.length cap, .slice q2 m2 cap2] 25)).alloc (.cells #[.slice nq nn nc, .slice aq ys.length ac] 42)).alloc (.cells #[.slice none 0 0, .slice none 0 0] 42)
  have b0 := old_at (old_at (new_at w (.cells #[.slice q l.length cap, .slice q2 m2 cap2] 25)) (.cells #[.slice nq nn nc, .slice aq ys.length ac] 42)) (.cells #[.slice none 0 0, .slice none 0 0] 42)
  have b1 := old_at (new_at (w.alloc (.cells #[.slice q l.length cap, .slice q2 m2 cap2] 25)) (.cells #[.slice nq nn nc, .slice aq ys.length ac] 42)) (.cells #[.slice none 0 0, .slice none 0 0] 42)
  have b2 := new_at ((w.alloc (.cells #[.slice q l.length cap, .slice q2 m2 cap2] 25)).alloc (.cells #[.slice nq nn nc, .slice aq ys.length ac] 42)) (.cells #[.slice none 0 0, .slice none 0 0] 42)
  have hsz : (((w.alloc (.cells #[.slice q l.length cap, .slice q2 m2 cap2] 25)).alloc (.cells #[.slice nq nn nc, .slice aq ys.length ac] 42)).alloc (.cells #[.slice none 0 0, .slice none 0 0] 42)).heap.size = w.heap.size + 3 := by simp only [World.size_alloc]
  simp only [World.size_alloc] at b0 b1 b2 ⊢
  generalize hW0 : World.alloc (World.alloc (World.alloc _ _) _) _ = W0 at *
  clear hW0
  obtain ⟨B, hBq⟩ : ∃ B, B = w.heap.size := ⟨_, rfl⟩
  rw [← hBq] at hsz b0 b1 b2 ⊢
  have HBq := Lib.hid hBq
  have Hbel := Lib.hid hbel
  have B0 := Lib.hid b0
  have B1 := Lib.hid b1
  have B2 := Lib.hid b2
  have Hsz := Lib.hid hsz
  have c0 : W0.cell? ⟨B, 0, none⟩ = some (.slice q l.length cap) := cellk b0 0 _ rfl
  have c1 : W0.cell? ⟨B, 1, none⟩ = some (.slice q2 m2 cap2) := cellk b0 1 _ rfl
  clear b0 b1 b2 hbel hBq hsz
  cases ok with
  | false =>
    clear HW Hn Hy2 Hy3 S3
    go_wp2_with (go_at_call 12; refine (HW0 _ Hbel.out).out.mono ?_; rintro e w1 ⟨rfl, hb1⟩; have d2 := hb1.at B2.out; have f0 := freek d2 0; have f1 := freek d2 1; have g0 : w1.cell? ⟨B + 1 + 1, 0, none⟩ = some (.slice none 0 0) := cellk d2 0 _ rfl; have g1 : w1.cell? ⟨B + 1 + 1, 1, none⟩ = some (.slice none 0 0) := cellk d2 1 _ rfl)
    have d3 := set_o3 (set_o2 d2 (.slice none 0 0)) (.slice none 0 0)
    have hbb := (((Hbel.out.trans hb1).set (p := ⟨B + 1 + 1, 0, none⟩) (by have := HBq.out; simp; omega) (.slice none 0 0)).set (p := ⟨B + 1 + 1, 1, none⟩) (by have := HBq.out; simp; omega) (.slice none 0 0))
    generalize World.setCell (World.setCell w1 _ _) _ _ = W3 at *
    have k0 : W3.cell? ⟨B + 1 + 1, 0, none⟩ = some (.slice none 0 0) := cellk d3 0 _ rfl
    have k1 : W3.cell? ⟨B + 1 + 1, 1, none⟩ = some (.slice none 0 0) := cellk d3 1 _ rfl
    refine bodyPost_ret (by simp [results, Tryz.results16, go_sem, k0, k1]; try rfl) rfl ?_
    exact ⟨(Option.none, 0, 0), (Option.none, 0, 0), rfl, hbb, fun W row _ _ _ => ⟨NameIs.nil _, AttrsIs.nil _⟩⟩
  | true =>
  go_upto_region 3 with (go_at_call 12; refine (HW0 _ Hbel.out).out.mono ?_; rintro e w1 ⟨rfl, hb1⟩)
  have z0 : w1.cell? ⟨B + 1, 0, none⟩ = some (.slice nq nn nc) := cellk (hb1.at B1.out) 0 _ rfl
  go_upto_region 4 with fail
  have hst : Stay w (w1.alloc (.cells #[.slice nq nn nc, .slice none 0 0] 42)) B _ _ _ (w1.heap.size + 1) := ⟨(Hbel.out.trans hb1).alloc _, (hb1.alloc _).at B0.out, (hb1.alloc _).at B1.out, (hb1.alloc _).at B2.out, by simp⟩
  have hO := new_at w1 (.cells #[.slice nq nn nc, .slice none 0 0] 42)
  have hOB : B + 1 + 1 < w1.heap.size := by have := hb1.size; have := Hsz.out; omega
  generalize hW2 : w1.alloc _ = W2 at *
  clear hW2 z0
  generalize w1.heap.size = O at *
  clear B0 B1 B2 Hbel Hsz hb1 HW0
  clear w1
  have Hst := Lib.hid hst
  have HO := Lib.hid hO
  have HOB := Lib.hid hOB
  clear hst hO hOB c0 c1
  go_wp2
  go_loopw [15] (fun i wr => ∃ k : Nat, k ≤ ys.length ∧ i = .int .i64 k ∧ BRow wr (O + 1) (.slice nq nn nc) O ((ys.take k).filter (sees l gs who key kind)) ∧ Stay w wr B (.cells #[.slice q l.length cap, .slice q2 m2 cap2] 25) (.cells #[.slice nq nn nc, .slice aq ys.length ac] 42) (.cells #[.slice none 0 0, .slice none 0 0] 42) (O + 1)) (fun i _ => ys.length - (intOf i).toNat)
  case atStart => exact ⟨0, Nat.zero_le _, rfl, ⟨_, HO.out, World.ownsRow_nil _ _ _ _⟩, Hst.out⟩
  case round =>
    obtain ⟨k, hk, rfl, hrow, hst⟩ := hrel
    have e1 : wr.cell? ⟨B + 1, 1, none⟩ = some (.slice aq ys.length ac) := cellk hst.2.2.1 1 _ rfl
    by_cases hlt : k < ys.length
    · obtain ⟨bb, off, cap', e, r0, r1⟩ := vp_at (Hy2.out.bel (Hbw.out.trans hst.1)) k hlt
      cases e
      have hts := take_snoc ys (Vls.none, []) k hlt
      have HT := Lib.hid (show (ys.take (k + 1)).filter (sees l gs who key kind) = (ys.take k).filter (sees l gs who key kind) ++ if allowedA l gs who key (ys.getD k (Vls.none, [])).1.name kind then [ys.getD k (Vls.none, [])] else [] by
        rw [hts, List.filter_append, List.filter_cons, List.filter_nil]; rfl)
      have hul2 : ((ys.take k).filter (sees l gs who key kind)).length ≤ 1000 := by
        refine Nat.le_trans (List.length_filter_le _ _) ?_
        have := S3.out
        rw [List.length_map] at this
        rw [List.length_take]
        exact Nat.le_trans (Nat.min_le_right _ _) this
      have Hul := Lib.hid hul2
      clear hul2 hts
      generalize (ys.take k).filter (sees l gs who key kind) = us2 at *
      generalize ys.getD k (Vls.none, []) = z at *
      obtain ⟨⟨zn, ⟨zq, zl, zc⟩⟩, ss⟩ := z
      dsimp only [Hd.val] at r0 r1
      have HA := HW zn
      obtain ⟨y, hO, hown⟩ := hrow
      obtain ⟨yq, ycap, rfl⟩ := own_slice hown
      have HO2 := Lib.hid hO
      have Hown := Lib.hid hown
      have Hst2 := Lib.hid hst
      have HS3 := S3.out
      rw [List.length_map] at HS3
      have Hlt := Lib.hid hlt
      have j0 : (0 : Int) ≤ (k : Int) := Int.natCast_nonneg _
      have j1 : (k : Int) < (ys.length : Int) := by omega
      have m0 : wr.cell? ⟨B, 0, none⟩ = some (.slice q l.length cap) := cellk hst.2.1 0 _ rfl
      have m1 : wr.cell? ⟨B, 1, none⟩ = some (.slice q2 m2 cap2) := cellk hst.2.1 1 _ rfl
      have R := fun W (h : Bel wr W) => Lib.hid (show W.cell? ⟨B + 1, 1, none⟩ = some (.slice (some ⟨bb, off, none⟩) ys.length ac) ∧ W.cell? ⟨bb, off + k * 2, none⟩ = some (.string zn) ∧ W.cell? ⟨bb, off + k * 2 + 1, none⟩ = some (.slice zq zl zc) ∧ W.cell? ⟨O, 1, none⟩ = some (.slice yq us2.length ycap) from ⟨h.cell e1, h.cell r0, h.cell r1, cellk (h.at hO) 1 _ rfl⟩)
      clear hO hown hst Hy2 Hn
      generalize allowedA l gs who key zn kind = al at HA HT
      cases al with
      | false =>
        go_upto_region 7 with fail
        go_still_tail 11, (by kernel_rfl)
        change wpList _ _ _ _ _ wr.drew
        have hd := (Bel.refl wr).drew
        clear m0 m1 r0 r1 e1
        generalize wr.drew = w2 at *
        go_wp2_with (go_at_call 12; refine (HA _ (Hst2.out.1.trans hd)).out.mono ?_; rintro e w4 ⟨rfl, hb4⟩)
        go_roundw
        case rel => exact ⟨k + 1, by have := Hlt.out; omega, by go_num, by rw [HT.out]; simpa using BRow.bel ⟨_, HO2.out, Hown.out⟩ (hd.trans hb4), Hst2.out.bel (hd.trans hb4)⟩
        case measure => have := Hlt.out; simp [intOf]; omega
      | true =>
        go_upto_region 7 with fail
        go_still_tail 11, (by kernel_rfl)
        change wpList _ _ _ _ _ wr.drew
        have hd := (Bel.refl wr).drew
        clear m0 m1 r0 r1 e1
        generalize wr.drew = w2 at *
        go_upto_region 8 with (go_at_call 12; refine (HA _ (Hst2.out.1.trans hd)).out.mono ?_; rintro e w4 ⟨rfl, hb4⟩)
        have hb5 := hd.trans hb4
        obtain ⟨x0, x1, x2, x3⟩ := (R w4 hb5).out
        obtain ⟨x4, x5, x6, x7⟩ := (R _ hb5.drew).out
        have x8 := fun o => ((R _ (hb5.drew.alloc o)).out).2.2.2
        have x9 := fun o => ((R _ (hb5.alloc o)).out).2.2.2
        have Hb5 := Lib.hid hb5
        have Hwb := Lib.hid (Hst2.out.1.trans hb5)
        clear hb5 hb4 hd
        go_region_law
          (first
            | (refine step_appG appVs w (O + 1) (by rfl) _ _ (by rfl) (.slice yq us2.length ycap) (.slice (some ⟨_, 0, none⟩) 1 1) us2.length 1 (us2.flatMap fun z => z.1.cells) [.string zn, .slice zq zl zc] (by rfl) (by rfl) (by repeat first | assumption | exact Hwb.out | refine Bel.alloc ?_ _ | refine Bel.drew ?_) (by have := HBq.out; have := HOB.out; omega) (by have := Hst2.out.2.2.2.2; have := Hb5.out.size; simp; omega) (own_bel Hown.out (by repeat first | assumption | exact Hb5.out | refine Bel.alloc ?_ _ | refine Bel.drew ?_)) (sl_lit2 (new_at _ _)) (by simp [Value.oneCell']) (by have := Hul.out; omega) ?_; intro v6 w6 hown6 hgrow6 hb6; obtain ⟨q6, cap6, rfl⟩ := own_slice hown6; have hO6 := out_kept9 HO2.out Hown.out (Nat.lt_succ_self O) (by repeat first | assumption | exact Hb5.out | refine Bel.alloc ?_ _ | refine Bel.drew ?_) hgrow6; have s0 : w6.cell? ⟨O, 1, none⟩ = some (.slice yq us2.length ycap) := cellk hO6 1 _ rfl; have s1 := freek hO6 1))
        all_goals
          have hN := brow_next (z := (⟨zn, (zq, zl, zc)⟩, ss)) HBq.out HOB.out (Nat.lt_succ_self O) Hst2.out HO2.out Hown.out (by repeat first | assumption | exact Hb5.out | refine Bel.alloc ?_ _ | refine Bel.drew ?_) hown6 hgrow6
          generalize World.setCell w6 _ _ = W7 at hN ⊢
          clear hown6 hgrow6 hb6 s0 s1 hO6 x0 x1 x2 x3 x4 x5 x6 x7 x8 x9 HO2 Hown HA R Hb5 Hst2 Hwb
          go_wp2
          go_roundw
          case rel => exact ⟨k + 1, by have := Hlt.out; omega, by go_num, by rw [HT.out]; exact hN.1, hN.2⟩
          case measure => have := Hlt.out; simp [intOf]; omega
    · have e : k = ys.length := by omega
      subst e
      rw [List.take_length] at hrow
      obtain ⟨y, hO, hown⟩ := hrow
      obtain ⟨yq, ycap, rfl⟩ := own_slice hown
      have hOc0 : wr.cell? ⟨O, 0, none⟩ = some (.slice nq nn nc) := cellk hO 0 _ rfl
      have hOc1 : wr.cell? ⟨O, 1, none⟩ = some (.slice yq _ ycap) := cellk hO 1 _ rfl
      have d2 := hst.2.2.2.1
      have p0 : wr.cell? ⟨B + 1 + 1, 0, none⟩ = some (.slice none 0 0) := cellk d2 0 _ rfl
      have p1 : wr.cell? ⟨B + 1 + 1, 1, none⟩ = some (.slice none 0 0) := cellk d2 1 _ rfl
      have f0 := freek d2 0
      have f1 := freek d2 1
      generalize hus : ys.filter (sees l gs who key kind) = us2 at *
      have hbb := ((hst.1.set (p := ⟨B + 1 + 1, 0, none⟩) (by have := HBq.out; simp; omega) (.slice nq nn nc)).set (p := ⟨B + 1 + 1, 1, none⟩) (by have := HBq.out; simp; omega) (.slice yq us2.length ycap))
      have d4 := set_o3 (set_o2 d2 (.slice nq nn nc)) (.slice yq us2.length ycap)
      have hS := (ownsRow_setCell_below (ownsRow_setCell_below hown (a := ⟨B + 1 + 1, 0, none⟩) (by have := HOB.out; simp; omega) (.slice nq nn nc)) (a := ⟨B + 1 + 1, 1, none⟩) (by have := HOB.out; simp; omega) (.slice yq us2.length ycap))
      have Hbb := Lib.hid hbb
      have D4 := Lib.hid d4
      have HS := Lib.hid hS
      have Hus := Lib.hid hus
      clear hO hown hst hbb d4 hS d2 hus HW Hy2 Hst HO
      go_wp2
      have k0 : ((wr.setCell ⟨B + 1 + 1, 0, none⟩ (.slice nq nn nc)).setCell ⟨B + 1 + 1, 1, none⟩ (.slice yq us2.length ycap)).cell? ⟨B + 1 + 1, 0, none⟩ = some (.slice nq nn nc) := cellk D4.out 0 _ rfl
      have k1 : ((wr.setCell ⟨B + 1 + 1, 0, none⟩ (.slice nq nn nc)).setCell ⟨B + 1 + 1, 1, none⟩ (.slice yq us2.length ycap)).cell? ⟨B + 1 + 1, 1, none⟩ = some (.slice yq us2.length ycap) := cellk D4.out 1 _ rfl
      generalize World.setCell (World.setCell wr _ _) _ _ = W9' at *
      refine bodyPost_ret (by simp [results, Tryz.results16, go_sem, k0, k1]; try rfl) rfl ?_
      refine ⟨(nq, nn, nc), (yq, us2.length, ycap), rfl, Hbb.out, fun W row hW hgW hoW => ⟨by simpa using Hn.out.bel hW, ⟨us2, ?_, rfl, slGrow (Sl.own HS.out) (Typ.own HS.out) hgW hoW, fun z hz => ?_⟩⟩⟩
      · rw [← Hus.out, seen_map]
      · rw [← Hus.out] at hz
        exact (Hy3.out z (List.mem_filter.1 hz).1).bel hW
end Go.Proofs.YtljeeehimcdmbaaGreatDoor
end

section
/- The walk of toponymlaw31.AclSees. No condition. -/
namespace Go.Proofs.YtljeeehimcdmbaaGreatDoor
open Go.RowKit Go.Wd Go.Dir Go.Shelf Go.Rq
open Go.Proofs.YtljeeehimcdmbaaGreatDoor.En (strC Vls Vls.none Vls.cells Pr Pr.none Pr.cells Hd.none hd_at pr_at vls_at VQ PQ2 EQ Ent Ent.val Ent.cells behind behind2 behind_ok behind2_ok)

theorem getD_of_mem {α : Type} {l : List α} {x d : α} (h : x ∈ l) : ∃ i, i < l.length ∧ l.getD i d = x := by
  obtain ⟨i, hi, e⟩ := List.getElem_of_mem h
  exact ⟨i, hi, by rw [List.getD_eq_getElem?_getD, List.getElem?_eq_getElem hi]; exact e⟩
open Classical in
theorem few29_is (W : World) (e : Ent) (h : EQ W e) : ∃ (B : Bool) (ns : List (List Pr)) (atr : List At), NameIs W e.1 ns ∧ AttrsIs W e.2 atr ∧ (B = true → ns.length ≤ 1000 ∧ (∀ p ∈ ns, p.length ≤ 1000) ∧ atr.length ≤ 1000 ∧ ∀ a ∈ atr, a.2.length ≤ 1000) ∧
    ∀ w, Bel W w → Calls Tryz.prog 14 #[e.val] w fun en w' => en = .returned (.bool B) ∧ Bel w w' := by
  obtain ⟨⟨nq, nn, nc⟩, ⟨aq, an, ac⟩⟩ := e
  obtain ⟨⟨ns, en, hn, hnq⟩, ⟨zs, ez, hz, hzq⟩⟩ := h
  obtain rfl : nn = ns.length := en
  obtain rfl : an = zs.length := ez
  have hS2 : En.Sees2 W (behind2 W) ns := fun z hz => behind2_ok (hnq z hz)
  have hS : En.Sees W (behind W) zs := fun z hz => behind_ok (hzq z hz)
  have hN : NameIs W (nq, ns.length, nc) (ns.map (behind2 W)) := ⟨ns.map (fun z => (z, behind2 W z)), by rw [List.map_map]; rfl, by rw [List.length_map], by rw [List.length_map, List.flatMap_map]; exact hn, fun z hz => by
    obtain ⟨x, hx, rfl⟩ := List.mem_map.1 hz
    exact hS2 x hx⟩
  have hA : AttrsIs W (aq, zs.length, ac) (zs.map fun z => ((z.name, behind W z) : At)) := ⟨zs.map (fun z => (z, behind W z)), by rw [List.map_map]; rfl, by rw [List.length_map], by rw [List.length_map, List.flatMap_map]; exact hz, fun z hz => by
    obtain ⟨x, hx, rfl⟩ := List.mem_map.1 hz
    exact hS x hx⟩
  generalize behind W = S at hS hA
  generalize behind2 W = S2 at hS2 hN
  refine ⟨decide (En.few18R S2 ns = true ∧ ¬ 30 < (zs.length : Int) ∧ En.AllOk3 S zs zs.length), _, _, hN, hA, fun hB => ?_, fun w hb => ?_⟩
  · obtain ⟨h1, h2, h3⟩ := of_decide_eq_true hB
    obtain ⟨h4, h5⟩ := of_decide_eq_true h1
    refine ⟨by rw [List.length_map]; omega, fun p hp => ?_, by rw [List.length_map]; omega, fun a ha => ?_⟩
    · obtain ⟨x, hx, rfl⟩ := List.mem_map.1 hp
      obtain ⟨i, hi, rfl⟩ := getD_of_mem (d := Hd.none) hx
      have := (h5 i hi).1
      omega
    · obtain ⟨x, hx, rfl⟩ := List.mem_map.1 ha
      obtain ⟨i, hi, rfl⟩ := getD_of_mem (d := Vls.none) hx
      have := (h3 i hi).1
      show (S _).length ≤ 1000
      omega
  · refine En.few29_walk w S2 S nq aq nc ac ns zs (hn.bel hb) (fun z hz => ⟨(hS2 z hz).1, (hS2 z hz).2.bel hb⟩) (hz.bel hb) (fun z hz => ⟨(hS z hz).1, (hS z hz).2.bel hb⟩) _ ?_ ?_ ?_ ?_
    · exact fun h => decide_eq_false fun k => by rw [h] at k; cases k.1
    · exact fun h => decide_eq_false fun k => k.2.1 h
    · exact fun i hi h => decide_eq_false fun k => h (k.2.2 i hi)
    · exact fun a b c => decide_eq_true ⟨a, b, c⟩
def FinP (W6 W : World) (N : Nat) (ns : List (List Pr)) (atr : List At) : Prop := Bel W6 W ∧ ∃ nh ah : Hd, W.heap[N]? = some (.cells #[nh.val, ah.val] 42) ∧ NameIs W nh ns ∧ AttrsIs W ah atr
theorem finA {W6 w8 : World} {n1 j1 : Option Addr} {n2 n3 j2 j3 : Nat} {ns : List (List Pr)} {atr : List At} (hb8 : Bel W6 w8) (hR : ∀ W row, Bel W6 W → w8.grownBy W row → Other w8 59 row → NameIs W (n1, n2, n3) ns ∧ AttrsIs W (j1, j2, j3) atr) :
    FinP W6 (w8.alloc (.cells #[.slice n1 n2 n3, .slice j1 j2 j3] 42)) w8.heap.size ns atr := by
  have h0 := new_at w8 (.cells #[.slice n1 n2 n3, .slice j1 j2 j3] 42)
  have hb := (Bel.refl w8).alloc (.cells #[.slice n1 n2 n3, .slice j1 j2 j3] 42)
  have := hR _ Option.none (hb8.trans hb) (hb.grow _) (Other.none _ _)
  exact ⟨hb8.trans hb, (n1, n2, n3), (j1, j2, j3), h0, this.1, this.2⟩
theorem finB {W6 w8 : World} {N : Nat} {n1 j1 : Option Addr} {n2 n3 j2 j3 : Nat} {ns : List (List Pr)} {atr : List At} (hN : W6.heap.size ≤ N) (p8 : w8.heap[N]? = some (.cells #[.slice none 0 0, .slice none 0 0] 42)) (hb8 : Bel W6 w8) (hR : ∀ W row, Bel W6 W → w8.grownBy W row → Other w8 59 row → NameIs W (n1, n2, n3) ns ∧ AttrsIs W (j1, j2, j3) atr) :
    FinP W6 ((w8.setCell ⟨N, 0, none⟩ (.slice n1 n2 n3)).setCell ⟨N, 1, none⟩ (.slice j1 j2 j3)) N ns atr := by
  have h0 := set_o3 (set_o2 p8 (.slice n1 n2 n3)) (.slice j1 j2 j3)
  have hb := (hb8.set (p := ⟨N, 0, none⟩) hN (.slice n1 n2 n3)).set (p := ⟨N, 1, none⟩) hN (.slice j1 j2 j3)
  have g1 := grown_set w8 ⟨N, 0, none⟩ (.slice n1 n2 n3)
  have g2 := grown_set (w8.setCell ⟨N, 0, none⟩ (.slice n1 n2 n3)) ⟨N, 1, none⟩ (.slice j1 j2 j3)
  have := hR _ (some N) hb ⟨g2.os.trans g1.os, g2.tape.trans g1.tape, g2.output.trans g1.output, Nat.le_trans g1.size g2.size, fun k hk hne => (g2.block k (Nat.lt_of_lt_of_le hk g1.size) hne).trans (g1.block k hk hne)⟩ (Other.cells p8 (by decide))
  exact ⟨hb, (n1, n2, n3), (j1, j2, j3), h0, this.1, this.2⟩
set_option maxRecDepth 100000 in
set_option maxHeartbeats 1000000 in
theorem sees_any (hawk : ∀ w, Calls Tryz.prog 10 #[] w fun en w' => en = .returned (.bool true) ∧ Below w.heap.size w w')
    (l : List Attr) (cs : List Cls) (v u gv : Value) (gs : List Grant) (nh ah : Hd) (who key attr : ByteArray) (kind : Int) (w : World)
    (hs : Sl w v 6 l.length (attrCells l)) (hc : Sl w u 5 cs.length (clsCells cs)) (hg : Sl w gv 7 gs.length (grantCells gs)) (hent : EQ w (nh, ah)) :
    Calls Tryz.prog 4 #[.agg #[v, u], gv, .agg #[nh.val, ah.val, .string who, .string key, .string attr, .int .i64 kind]] w fun e w' => e = .returned (.bool true) ∧ Bel w w' := by
  have HA := fun w' => Lib.hid (hawk w')
  have HF := fun w' (h : Bel w w') => Lib.hid (few21_any l cs v u w' (hs.bel h) (hc.bel h))
  have HG := fun w' (h : Bel w w') => Lib.hid (few_any gs gv w' (hg.bel h))
  have HS := fun w' => Lib.hid (short_any who key attr kind w')
  obtain ⟨f5, ns, atr, hn, hat, hsm, hfew⟩ := few29_is w (nh, ah) hent
  have HE := fun w' h => Lib.hid (hfew w' h)
  have Hn := Lib.hid hn
  have Hat := Lib.hid hat
  have HSm := Lib.hid hsm
  clear hawk hn hat hsm hfew hent
  obtain ⟨q, cap, rfl⟩ : ∃ q cap, v = .slice q l.length cap := by obtain ⟨_, q, cap, h, _⟩ := hs; exact ⟨q, cap, h⟩
  obtain ⟨qc, capc, rfl⟩ : ∃ q cap, u = .slice q cs.length cap := by obtain ⟨_, q, cap, h, _⟩ := hc; exact ⟨q, cap, h⟩
  obtain ⟨qg, capg, rfl⟩ : ∃ q cap, gv = .slice q gs.length cap := by obtain ⟨_, q, cap, h, _⟩ := hg; exact ⟨q, cap, h⟩
  obtain ⟨nq, nn, nc⟩ := nh
  obtain ⟨aq, an, ac⟩ := ah
  unfold Ent.val at HE
  dsimp only [Hd.val] at HE ⊢
  have Hs := Lib.hid hs
  have Hg := Lib.hid hg
  clear hs hc hg
  obtain ⟨f1, hf1⟩ : ∃ b, b = fewS l cs := ⟨_, rfl⟩
  obtain ⟨f2, hf2⟩ : ∃ b, b = fewL gs := ⟨_, rfl⟩
  obtain ⟨f4, hf4⟩ : ∃ b, b = shortQ who key attr := ⟨_, rfl⟩
  rw [← hf1] at HF
  rw [← hf2] at HG
  rw [← hf4] at HS
  have HF1 := Lib.hid hf1
  have HF2 := Lib.hid hf2
  have HF4 := Lib.hid hf4
  clear hf1 hf2 hf4
  go_enter Tryz.func4, Tryz.ntmps4
  go_upto_region 1 with fail
  have hbel := ((Bel.refl w).alloc (.cells #[.slice q l.length cap, .slice qc cs.length capc] 25)).alloc (.cells #[.slice nq nn nc, .slice aq an ac, .string who, .string key, .string attr, .int .i64 kind] 44)
  have b1 := new_at (w.alloc (.cells #[.slice q l.length cap, .slice qc cs.length capc] 25)) (.cells #[.slice nq nn nc, .slice aq an ac, .string who, .string key, .string attr, .int .i64 kind] 44)
  have b0 := old_at (new_at w (.cells #[.slice q l.length cap, .slice qc cs.length capc] 25)) (.cells #[.slice nq nn nc, .slice aq an ac, .string who, .string key, .string attr, .int .i64 kind] 44)
  simp only [World.size_alloc] at b0 b1 ⊢
  generalize hW0 : World.alloc (World.alloc _ _) _ = W0 at *
  clear hW0
  have cell : ∀ w', Bel W0 w' → w'.cell? ⟨w.heap.size, 0, none⟩ = some (.slice q l.length cap) ∧ w'.cell? ⟨w.heap.size, 1, none⟩ = some (.slice qc cs.length capc) ∧ w'.cell? ⟨w.heap.size + 1, 0, none⟩ = some (.slice nq nn nc) ∧ w'.cell? ⟨w.heap.size + 1, 1, none⟩ = some (.slice aq an ac) ∧ w'.cell? ⟨w.heap.size + 1, 2, none⟩ = some (.string who) ∧ w'.cell? ⟨w.heap.size + 1, 3, none⟩ = some (.string key) ∧ w'.cell? ⟨w.heap.size + 1, 4, none⟩ = some (.string attr) ∧ w'.cell? ⟨w.heap.size + 1, 5, none⟩ = some (.int .i64 kind) := fun W h =>
    ⟨cellk (h.at b0) 0 _ rfl, cellk (h.at b0) 1 _ rfl, cellk (h.at b1) 0 _ rfl, cellk (h.at b1) 1 _ rfl, cellk (h.at b1) 2 _ rfl, cellk (h.at b1) 3 _ rfl, cellk (h.at b1) 4 _ rfl, cellk (h.at b1) 5 _ rfl⟩
  clear b0 b1
  generalize w.heap.size = B at cell ⊢
  have Hbel := Lib.hid hbel
  have Cell := fun W h => Lib.hid (cell W h)
  clear cell hbel
  cases f1 with
  | false =>
    clear HG HS HE HF1 HF2 HF4
    obtain ⟨x0, x1, -⟩ := (Cell W0 (Bel.refl _)).out
    clear Cell
    go_wp2_with (first | (go_at_call 7; refine (HF _ Hbel.out).out.mono ?_; rintro e w' ⟨rfl, hb1⟩) | (go_at_call 10; refine (HA _).out.mono ?_; rintro e w3 ⟨rfl, hb3⟩))
    go_ret
    exact ⟨rfl, (Hbel.out.trans hb1).trans hb3⟩
  | true =>
  cases f2 with
  | false =>
    clear HS HE HF1 HF2 HF4
    obtain ⟨x0, x1, -⟩ := (Cell W0 (Bel.refl _)).out
    go_wp2_with (first | (go_at_call 7; refine (HF _ Hbel.out).out.mono ?_; rintro e w1 ⟨rfl, hb1⟩; obtain ⟨y0, y1, y2, y3, y4, y5, y6, y7⟩ := (Cell _ hb1).out) | (go_at_call 8; refine (HG _ (Hbel.out.trans hb1)).out.mono ?_; rintro e w' ⟨rfl, hw⟩; subst hw) | (go_at_call 10; refine (HA _).out.mono ?_; rintro e w3 ⟨rfl, hb3⟩))
    go_ret
    exact ⟨rfl, (Hbel.out.trans hb1).trans hb3⟩
  | true =>
  cases f4 with
  | false =>
    clear HE HF1 HF2 HF4
    obtain ⟨x0, x1, -⟩ := (Cell W0 (Bel.refl _)).out
    go_wp2_with (first | (go_at_call 7; refine (HF _ Hbel.out).out.mono ?_; rintro e w1 ⟨rfl, hb1⟩; obtain ⟨y0, y1, y2, y3, y4, y5, y6, y7⟩ := (Cell _ hb1).out) | (go_at_call 8; refine (HG _ (Hbel.out.trans hb1)).out.mono ?_; rintro e w' ⟨rfl, hw⟩; subst hw) | (go_at_call 9; refine (HS _).out.mono ?_; rintro e w2 ⟨rfl, hb2⟩; obtain ⟨z0, z1, z2, z3, z4, z5, z6, z7⟩ := (Cell _ (hb1.trans hb2)).out) | (go_at_call 10; refine (HA _).out.mono ?_; rintro e w3 ⟨rfl, hb3⟩))
    go_ret
    exact ⟨rfl, ((Hbel.out.trans hb1).trans hb2).trans hb3⟩
  | true =>
  cases f5 with
  | false =>
    clear HF1 HF2 HF4
    obtain ⟨x0, x1, -⟩ := (Cell W0 (Bel.refl _)).out
    go_wp2_with (first | (go_at_call 7; refine (HF _ Hbel.out).out.mono ?_; rintro e w1 ⟨rfl, hb1⟩; obtain ⟨y0, y1, y2, y3, y4, y5, y6, y7⟩ := (Cell _ hb1).out) | (go_at_call 8; refine (HG _ (Hbel.out.trans hb1)).out.mono ?_; rintro e w' ⟨rfl, hw⟩; subst hw) | (go_at_call 9; refine (HS _).out.mono ?_; rintro e w2 ⟨rfl, hb2⟩; obtain ⟨z0, z1, z2, z3, z4, z5, z6, z7⟩ := (Cell _ (hb1.trans hb2)).out) | (go_at_call 14; refine (HE _ ((Hbel.out.trans hb1).trans hb2)).out.mono ?_; rintro e w4 ⟨rfl, hb4⟩) | (go_at_call 10; refine (HA _).out.mono ?_; rintro e w3 ⟨rfl, hb3⟩))
    go_ret
    exact ⟨rfl, (((Hbel.out.trans hb1).trans hb2).trans hb4).trans hb3⟩
  | true =>
    obtain ⟨x0, x1, -⟩ := (Cell W0 (Bel.refl _)).out
    go_upto_region 3 with (first | (go_at_call 7; refine (HF _ Hbel.out).out.mono ?_; rintro e w1 ⟨rfl, hb1⟩; obtain ⟨y0, y1, y2, y3, y4, y5, y6, y7⟩ := (Cell _ hb1).out) | (go_at_call 8; refine (HG _ (Hbel.out.trans hb1)).out.mono ?_; rintro e w' ⟨rfl, hw⟩; subst hw) | (go_at_call 9; refine (HS _).out.mono ?_; rintro e w2 ⟨rfl, hb2⟩; obtain ⟨z0, z1, z2, z3, z4, z5, z6, z7⟩ := (Cell _ (hb1.trans hb2)).out) | (go_at_call 14; refine (HE _ ((Hbel.out.trans hb1).trans hb2)).out.mono ?_; rintro e w4 ⟨rfl, hb4⟩))
    obtain ⟨hl, ha, hk, hgl, sl, hsl, hsn⟩ := few_facts2 HF1.out HF2.out HF4.out
    obtain ⟨t1, t2, t3, t4⟩ := HSm.out (by first | exact rfl | trivial)
    have hb5 : Bel W0 w4 := (hb1.trans hb2).trans hb4
    clear HF HG HS HE HF1 HF2 HF4 HSm y0 y1 y2 y3 y4 y5 y6 y7 z0 z1 z2 z3 z4 z5 z6 z7 x0 x1 hb4 hb2 hb1
    have HV := fun w' (h : Bel W0 w') => Lib.hid (view_any l sl who key kind (.slice q l.length cap) (.slice qg gs.length capg) qc cs.length capc (nq, nn, nc) (aq, an, ac) ns atr w' (Hs.out.bel (Hbel.out.trans h)) hl ha hk (by rw [hsl, hsn]; exact Hg.out.bel (Hbel.out.trans h)) (by omega) (Hn.out.bel (Hbel.out.trans h)) (Hat.out.bel (Hbel.out.trans h)) t1 t2 t3 t4)
    have HP := fun w' (h : Bel W0 w') => Lib.hid (plain_any gs (.slice qg gs.length capg) w' (Hg.out.bel (Hbel.out.trans h)) hgl)
    have HR := fun v' w0' w' (h0 : Bel W0 w0') (h00 : Bel w0' w') (h : Bel W0 w') (h' : Sl w' v' 7 gs.length (grantCells gs)) => Lib.hid (refView_any l sl who key kind (.slice q l.length cap) v' qc cs.length capc (nq, nn, nc) (aq, an, ac) ns atr w0' w' (Hs.out.bel (Hbel.out.trans h)) hl ha hk (by rw [hsl, hsn]; exact h') (by omega) (Hn.out.bel (Hbel.out.trans h0)) (Hat.out.bel (Hbel.out.trans h0)) h00 t3)
    generalize allowedA l sl who key ⟨#[]⟩ kind = ok at HV HR
    generalize (if ok then ns else []) = ns2 at HV HR
    generalize (if ok then seen l sl who key kind atr else []) = at2 at HV HR
    dsimp only [Hd.val] at HV HR
    clear hl ha hk hgl hsl hsn Hs Hg t1 t2 t3 t4
    obtain ⟨z0, z1, z2, z3, z4, z5, z6, z7⟩ := (Cell _ hb5).out
    go_upto_region 4 with (go_at_call 15; refine (HV _ hb5).out.mono ?_; rintro e w5 ⟨⟨m1, m2, m3⟩, ⟨k1, k2, k3⟩, rfl, hb6, hm, hk⟩; dsimp only)
    have hb7 := hb5.trans hb6
    have n7 := new_at w5 (.cells #[.slice m1 m2 m3, .slice k1 k2 k3] 42)
    have Cell5 := fun W (h : Bel w5 W) => Cell W (hb7.trans h)
    have HP5 := fun w' (h : Bel w5 w') => HP w' (hb7.trans h)
    have N7 : ∀ W, Bel (w5.alloc (.cells #[.slice m1 m2 m3, .slice k1 k2 k3] 42)) W → W.cell? ⟨w5.heap.size, 0, none⟩ = some (.slice m1 m2 m3) ∧ W.cell? ⟨w5.heap.size, 1, none⟩ = some (.slice k1 k2 k3) := fun W h => ⟨cellk (h.at n7) 0 _ rfl, cellk (h.at n7) 1 _ rfl⟩
    have Hm := Lib.hid hm
    have Hk := Lib.hid hk
    have Hb7 := Lib.hid hb7
    have hbQ := (Bel.refl w5).alloc (.cells #[.slice m1 m2 m3, .slice k1 k2 k3] 42)
    clear z0 z1 z2 z3 z4 z5 z6 z7 n7 hm hk hb7 hb6 hb5 Cell HP HV Hn Hat
    generalize hW6 : w5.alloc _ = W6 at *
    clear hW6
    generalize w5.heap.size = Q at *
    have N7 := fun W h => Lib.hid (N7 W h)
    have Cell6 := fun W (h : Bel W6 W) => Cell5 W (hbQ.trans h)
    have HP6 := fun w' (h : Bel W6 w') => Lib.hid ((HP5 w' (hbQ.trans h)).out)
    have HR6 := fun v' w' (h : Bel W6 w') h' => Lib.hid ((HR v' W6 w' (Hb7.out.trans hbQ) h (Hb7.out.trans (hbQ.trans h)) h').out)
    have HbQ := Lib.hid hbQ
    clear HP5 HR Cell5 hbQ
    have HA2 := fun w' => (HA w').out
    obtain ⟨z0, z1, z2, z3, z4, z5, z6, z7⟩ := (Cell6 _ (Bel.refl _)).out
    go_cut [9, 10] from 49 to 66 (fun s9 s10 wx => s10 = .bool ok ∧ ∃ N, s9 = .pointer (some ⟨N, 0, none⟩) ∧ FinP W6 wx N ns2 at2)
    case first =>
      clear N7 Hm Hk HA HA2
      go_region_held3 (fun w' => w'.cell? ⟨B, 0, none⟩ = some (.slice q l.length cap) ∧ w'.cell? ⟨B, 1, none⟩ = some (.slice qc cs.length capc) ∧ w'.cell? ⟨B + 1, 0, none⟩ = some (.slice nq nn nc) ∧ w'.cell? ⟨B + 1, 1, none⟩ = some (.slice aq an ac) ∧ w'.cell? ⟨B + 1, 2, none⟩ = some (.string who) ∧ w'.cell? ⟨B + 1, 3, none⟩ = some (.string key) ∧ w'.cell? ⟨B + 1, 4, none⟩ = some (.string attr) ∧ w'.cell? ⟨B + 1, 5, none⟩ = some (.int .i64 kind)) (first | exact (Cell6 _ (by repeat first | assumption | exact Bel.refl _ | refine Bel.alloc ?_ _ | refine Bel.drew ?_ | refine Bel.set ?_ (by first | exact Nat.le_refl _ | exact hb7.size) _)).out | go_keep)
        (first
          | (go_at_call 13; refine (HP6 _ (by repeat first | assumption | exact Bel.refl _ | refine Bel.alloc ?_ _ | refine Bel.drew ?_)).out.mono ?_; rintro e w7 ⟨u7, rfl, hS7, hb7'⟩; have hb7 : Bel W6 w7 := Bel.trans (by repeat first | assumption | exact Bel.refl _ | refine Bel.alloc ?_ _ | refine Bel.drew ?_) hb7'; (try have p7 := hb7'.at (new_at _ (.cells #[.slice none 0 0, .slice none 0 0] 42))))
          | (go_at_call 16; refine (HR6 u7 _ (by repeat first | assumption | exact Bel.refl _ | refine Bel.alloc ?_ _ | refine Bel.drew ?_) (hS7.bel (by repeat first | assumption | exact Bel.refl _ | refine Bel.alloc ?_ _ | refine Bel.drew ?_))).out.mono ?_; rintro e w8 ⟨⟨n1, n2, n3⟩, ⟨j1, j2, j3⟩, rfl, hb8', hR8⟩; have hb8 : Bel W6 w8 := Bel.trans (by repeat first | assumption | exact Bel.refl _ | refine Bel.alloc ?_ _ | refine Bel.drew ?_) hb8'; dsimp only; (first | have p8 := hb8'.at (new_at _ (.cells #[.slice none 0 0, .slice none 0 0] 42)) | have p8 := hb8'.at p7 | skip); (first | have q0 : w8.cell? ⟨w7.heap.size, 0, none⟩ = some (.slice none 0 0) := cellk p8 0 _ rfl | have q0 : w8.cell? ⟨W6.heap.size, 0, none⟩ = some (.slice none 0 0) := cellk p8 0 _ rfl | skip); (first | have q1 : w8.cell? ⟨w7.heap.size, 1, none⟩ = some (.slice none 0 0) := cellk p8 1 _ rfl | have q1 : w8.cell? ⟨W6.heap.size, 1, none⟩ = some (.slice none 0 0) := cellk p8 1 _ rfl | skip); (first | have q2 : w8.frozen? ⟨w7.heap.size, 0, none⟩ = false := freek p8 0 | have q2 : w8.frozen? ⟨W6.heap.size, 0, none⟩ = false := freek p8 0 | skip); (first | have q3 : w8.frozen? ⟨w7.heap.size, 1, none⟩ = false := freek p8 1 | have q3 : w8.frozen? ⟨W6.heap.size, 1, none⟩ = false := freek p8 1 | skip)))
      all_goals (go_wp2; go_meet; first | exact ⟨rfl, _, rfl, finA hb8 hR8⟩ | exact ⟨rfl, _, rfl, finB hb7.size p8 hb8 hR8⟩ | exact ⟨rfl, _, rfl, finB (Nat.le_refl _) p8 hb8 hR8⟩)
    case rest =>
      obtain ⟨rfl, N, rfl, hb9, ⟨n1, n2, n3⟩, ⟨j1, j2, j3⟩, hN, hn9, ha9⟩ := hcut
      have N8 := N7 _ hb9
      have hSm := Lib.hid (same30 (m1, m2, m3) (k1, k2, k3) (n1, n2, n3) (j1, j2, j3) ns2 at2 wc (Hm.out.bel (HbQ.out.trans hb9)) (Hk.out.bel (HbQ.out.trans hb9)) hn9 ha9)
      dsimp only [Hd.val] at hSm hN
      have q0 : wc.cell? ⟨N, 0, none⟩ = some (.slice n1 n2 n3) := cellk hN 0 _ rfl
      have q1 : wc.cell? ⟨N, 1, none⟩ = some (.slice j1 j2 j3) := cellk hN 1 _ rfl
      obtain ⟨q2, q3⟩ := N8.out
      have Hb9 := Lib.hid hb9
      clear hn9 ha9 hN N8 N7 hb9 Hm Hk HP6 HR6 Cell6 HA2 z0 z1 z2 z3 z4 z5 z6 z7
      cases ok
      all_goals (go_wp2_with (first | (go_at_call 17; refine hSm.out.mono ?_; rintro e w10 ⟨rfl, hb10⟩) | (go_at_call 10; refine (HA _).out.mono ?_; rintro e w11 ⟨rfl, hb11⟩)))
      all_goals go_ret
      all_goals exact ⟨rfl, (((Hbel.out.trans Hb7.out).trans (HbQ.out.trans Hb9.out)).trans hb10).trans hb11⟩
end Go.Proofs.YtljeeehimcdmbaaGreatDoor
end
