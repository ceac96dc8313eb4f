/- TreeNobody: a part of its proof. No condition. -/
import Derived.Test.YtkoacjmccdeggaaGreatDoorPTreeNobodyx3
namespace Go.Proofs.YtkoacjmccdeggaaGreatDoor.PTreeNobody
open Go.RowKit Go.Proofs.YtkoacjmccdeggaaGreatDoorW.PrintWords Go.Proofs.YtkoacjmccdeggaaGreatDoorW.PrintLast Go.Proofs.YtkoacjmccdeggaaGreatDoorW.PrintMore
theorem w64 (i : Nat) (h : i < 1000) : wrap64 ((i : Int) + 1) = ((i + 1 : Nat) : Int):=by
 unfold wrap64
 omega
theorem few18_row (x0 : List (List S132)) (i : Nat) (hi : i < x0.length) (hn : x0.length≤10) (hm : (rd_L2 x0 i).length≤10) (hnext : ∃ k r,toponymlaw18_Few.l0 k x0 ((i + 1 : Nat) : Int) = some r) :
 ∀ d j : Nat,j + d = (rd_L2 x0 i).length→∃ k r,toponymlaw18_Few.l1 k x0 i j = some r
 | 0,j,hj => by
   obtain ⟨k,r,h⟩:=hnext
   refine ⟨k + 1,r,?_⟩
   rw [toponymlaw18_Few.l1,if_pos (by omega),if_pos (by omega),if_neg (by omega),w64 i (by omega)]
   exact h
 | d + 1,j,hj => by
   obtain ⟨k,r,h⟩:=few18_row x0 i hi hn hm hnext d (j + 1) (by omega)
   by_cases h1 : (((rd_T132 (rd_L2 x0 i) j).f0).size : Int) > 1000
   · exact ⟨1,false,by rw [toponymlaw18_Few.l1,if_pos (by omega),if_pos (by omega),if_pos (by omega),if_pos (by omega),if_pos h1]⟩
   by_cases h2 : (((rd_T132 (rd_L2 x0 i) j).f1).size : Int) > 1000
   · exact ⟨1,false,by rw [toponymlaw18_Few.l1,if_pos (by omega),if_pos (by omega),if_pos (by omega),if_pos (by omega),if_neg h1,if_pos h2]⟩
   exact ⟨k + 1,r,by rw [toponymlaw18_Few.l1,if_pos (by omega),if_pos (by omega),if_pos (by omega),if_pos (by omega),if_neg h1,if_neg h2,w64 j (by omega)]; exact h⟩
theorem few18_rows (x0 : List (List S132)) (hn : x0.length≤10) : ∀ d i : Nat,i + d = x0.length→∃ k r,toponymlaw18_Few.l0 k x0 i = some r
 | 0,i,hi => ⟨1,true,by rw [toponymlaw18_Few.l0,if_neg (by omega)]⟩
 | d + 1,i,hi => by
   have hnext:=few18_rows x0 hn d (i + 1) (by omega)
   by_cases h1 : ((rd_L2 x0 i).length : Int) > 10
   · exact ⟨1,false,by rw [toponymlaw18_Few.l0,if_pos (by omega),if_pos (by omega),if_pos h1]⟩
   obtain ⟨k,r,h⟩:=few18_row x0 i (by omega) hn (by omega) hnext _ 0 (Nat.zero_add _)
   exact ⟨k + 1,r,by rw [toponymlaw18_Few.l0,if_pos (by omega),if_pos (by omega),if_neg h1]; exact h⟩
theorem few18 (x0 : List (List S132)) : ∃ k r,toponymlaw18_Few.f k x0 = some r:=by
 by_cases h : (x0.length : Int) > 10
 · exact ⟨0,false,by rw [toponymlaw18_Few.f,if_pos h]⟩
 obtain ⟨k,r,h1⟩:=few18_rows x0 (by omega) _ 0 (Nat.zero_add _)
 exact ⟨k,r,by rw [toponymlaw18_Few.f,if_neg h]; exact h1⟩
theorem few29_row (n : List (List S132)) (a : List S54) (i : Nat) (hi : i < a.length) (hn : a.length≤30) (hm : ((rd_T54 a i).f1).length≤20) (hnext : ∃ k r,toponymlaw29_FewEntry.l0 k ((i + 1 : Nat) : Int) n a = some r) :
 ∀ d j : Nat,j + d = ((rd_T54 a i).f1).length→∃ k r,toponymlaw29_FewEntry.l1 k i j n a = some r
 | 0,j,hj => by
   obtain ⟨k,r,h⟩:=hnext
   refine ⟨k + 1,r,?_⟩
   rw [toponymlaw29_FewEntry.l1,if_pos (by omega),if_pos (by omega),if_neg (by omega),w64 i (by omega)]
   exact h
 | d + 1,j,hj => by
   obtain ⟨k,r,h⟩:=few29_row n a i hi hn hm hnext d (j + 1) (by omega)
   by_cases h1 : ((rdOf ByteArray.empty ((rd_T54 a i).f1) j).size : Int) > 150
   · exact ⟨1,false,by rw [toponymlaw29_FewEntry.l1,if_pos (by omega),if_pos (by omega),if_pos (by omega),if_pos (by omega),if_pos h1]⟩
   exact ⟨k + 1,r,by rw [toponymlaw29_FewEntry.l1,if_pos (by omega),if_pos (by omega),if_pos (by omega),if_pos (by omega),if_neg h1,w64 j (by omega)]; exact h⟩
theorem few29_rows (n : List (List S132)) (a : List S54) (hn : a.length≤30) : ∀ d i : Nat,i + d = a.length→∃ k r,toponymlaw29_FewEntry.l0 k i n a = some r
 | 0,i,hi => ⟨1,true,by rw [toponymlaw29_FewEntry.l0,if_neg (by omega)]⟩
 | d + 1,i,hi => by
   have hnext:=few29_rows n a hn d (i + 1) (by omega)
   by_cases h1 : (((rd_T54 a i).f1).length : Int) > 20
   · exact ⟨2,false,by rw [toponymlaw29_FewEntry.l0,if_pos (by omega),if_pos (by omega),if_pos h1,toponymlaw29_FewEntry.j2,if_pos rfl]⟩
   by_cases h2 : (((rd_T54 a i).f0).size : Int) > 1000
   · exact ⟨2,false,by rw [toponymlaw29_FewEntry.l0,if_pos (by omega),if_pos (by omega),if_neg h1,toponymlaw29_FewEntry.j2,if_pos (decide_eq_true h2)]⟩
   obtain ⟨k,r,h⟩:=few29_row n a i (by omega) hn (by omega) hnext _ 0 (Nat.zero_add _)
   exact ⟨k + 2,r,by rw [toponymlaw29_FewEntry.l0,if_pos (by omega),if_pos (by omega),if_neg h1,toponymlaw29_FewEntry.j2,if_neg (by simpa using h2)]; exact h⟩
theorem few29j (n : List (List S132)) (a : List S54) : ∃ k r,toponymlaw29_FewEntry.j0 k (decide ((a.length : Int) > 30)) n a = some r:=by
 by_cases h : (a.length : Int) > 30
 · exact ⟨1,false,by rw [toponymlaw29_FewEntry.j0,if_pos (decide_eq_true h)]⟩
 obtain ⟨k,r,h1⟩:=few29_rows n a (by omega) _ 0 (Nat.zero_add _)
 exact ⟨k + 1,r,by rw [toponymlaw29_FewEntry.j0,if_neg (by simpa using h)]; exact h1⟩
theorem up {α : Type} {f : Nat→Option α} (hm : ∀ k,LeO (f k) (f (k + 1))) {k : Nat} {r : α} (h : f k = some r) : ∀ m,f (k + m) = some r
 | 0 => h
 | m + 1 => hm _ _ (up hm h m)
theorem few29 (n : List (List S132)) (a : List S54) : ∃ k r,toponymlaw29_FewEntry.f k n a = some r:=by
 obtain ⟨k1,r1,h1⟩:=few18 n
 obtain ⟨k2,r2,h2⟩:=few29j n a
 have e1:=up (f:=fun k => toponymlaw18_Few.f k n) (fun k => toponymlaw18_Few.mono _ _) h1 (k2 + 1)
 cases r1 with
 | false => exact ⟨k1 + (k2 + 1),false,by
    have e1' : toponymlaw18_Few.f (k1 + (k2 + 1)) n = some false:=e1
    rw [toponymlaw29_FewEntry.f,e1',Option.bind_some,if_neg (by simp),show k1 + (k2 + 1) = (k1 + k2) + 1 from rfl,toponymlaw29_FewEntry.j0,if_pos rfl]⟩
 | true => exact ⟨k2 + (k1 + 1),r2,by
    have e1' : toponymlaw18_Few.f (k2 + (k1 + 1)) n = some true:=by rw [show k2 + (k1 + 1) = k1 + (k2 + 1) by omega]; exact e1
    have e2 : toponymlaw29_FewEntry.j0 (k2 + (k1 + 1)) (decide ((a.length : Int) > 30)) n a = some r2:=up (f:=fun k => toponymlaw29_FewEntry.j0 k (decide ((a.length : Int) > 30)) n a) (fun k => (toponymlaw29_FewEntry.mono_l k).1 _ _ _) h2 (k1 + 1)
    rw [toponymlaw29_FewEntry.f,e1',Option.bind_some,if_pos rfl]; exact e2⟩
def at0 : List S86:=[⟨⟨#[99,108,115]⟩,⟨#[]⟩,9,9,false,false⟩,⟨⟨#[99,110]⟩,⟨#[]⟩,1,2,false,false⟩]
def cl0 : List S134:=[⟨⟨#[116,104,105,110,103]⟩,⟨#[]⟩,false,[⟨#[99,108,115]⟩,⟨#[99,110]⟩],[]⟩]
theorem few21 : toponymlaw21_Few.f 5 at0 cl0 = some true:=by decide +kernel
theorem few32 (x : S66) : ∃ k r,toponymlaw32_Few.f k at0 cl0 [x] = some r:=by
 obtain ⟨k,r,h⟩:=few29 x.f2.f0 x.f2.f1
 have h1 : ∃ r,toponymlaw32_Few.l0 (k + 2) [x] 0 = some r:=by
  have e:=up (f:=fun k => toponymlaw29_FewEntry.f k x.f2.f0 x.f2.f1) (fun k => toponymlaw29_FewEntry.mono _ _ _) h 1
  have e' : toponymlaw29_FewEntry.f (k + 1) ((rd_T66 [x] 0).f2.f0) ((rd_T66 [x] 0).f2.f1) = some r:=e
  rw [show k + 2 = (k + 1) + 1 from rfl,toponymlaw32_Few.l0,if_pos (by simp),if_pos (by simp),e',Option.bind_some]
  cases r with
  | false => exact ⟨false,by rw [if_neg (by simp)]⟩
  | true =>
    rw [if_pos rfl]
    split
    · exact ⟨_,rfl⟩
    · have:=w64 0 (by omega)
      refine ⟨true,?_⟩
      rw [show ((0 : Int) + 1) = (((0 : Nat) : Int) + 1) from rfl,this,toponymlaw32_Few.l0,if_neg (by simp)]
 obtain ⟨r1,h1⟩:=h1
 have h21 : toponymlaw21_Few.f (5 + (k + 3)) at0 cl0 = some true:=up (f:=fun k => toponymlaw21_Few.f k at0 cl0) (fun k => toponymlaw21_Few.mono _ _ _) few21 (k + 3)
 have h2 : toponymlaw32_Few.l0 ((k + 2) + 5) [x] 0 = some r1:=up (f:=fun k => toponymlaw32_Few.l0 k [x] 0) (fun k => (toponymlaw32_Few.mono_l k).2 _ _) h1 5
 refine ⟨5 + (k + 3),r1,?_⟩
 rw [toponymlaw32_Few.f,if_neg (by simp),h21,Option.bind_some,show 5 + (k + 3) = ((k + 2) + 5) + 1 by omega,toponymlaw32_Few.j0]
 simp only [Bool.not_true,Bool.false_eq_true,if_false]
 exact h2
end Go.Proofs.YtkoacjmccdeggaaGreatDoor.PTreeNobody
