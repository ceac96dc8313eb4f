/- IndexNobody: a part of its proof. No condition. -/
import Derived.Test.YtkoacjmccdeggaaGreatDoorME3
import Derived.Test.YtkoacjmccdeggaaGreatDoorMEK
import Derived.Test.YtkoacjmccdeggaaGreatDoorMETo
import Derived.WideShapes
set_option maxRecDepth 100000
namespace Go.Proofs.YtkoacjmccdeggaaGreatDoor
open Go Go.E Go.RowKit Go.Proofs.YtkoacjmccdeggaaGreatDoorW.PrintWords PIndexNobody
theorem vrs1 {g : Gh} {a : RV} {l : List RV} {L : List Value} (h : VRs g (a :: l) L) : ∃ A L', L = A :: L' ∧ VR g a A ∧ VRs g l L' := by
  cases h with
  | cons h hs => exact ⟨_, _, rfl, h, hs⟩
theorem vrs0 {g : Gh} {L : List Value} (h : VRs g [] L) : L = [] := by
  cases h; rfl
theorem vr_agg {g : Gh} {l : List RV} {V : Value} (h : VR g (.agg l) V) : ∃ cs : Array Value, V = .agg cs ∧ VRs g l cs.toList := by
  cases h with
  | agg h h1 => exact ⟨_, rfl, h⟩
theorem vr_nils {g : Gh} {V : Value} (h : VR g .nils V) : V = .slice none 0 0 := by cases h; rfl
theorem vr_opq {g : Gh} {q n : Nat} {V : Value} (h : VR g (.opq q n) V) : V = g.o n := by
  cases h with
  | opq _ _ h => exact h.symm
theorem vr_bool {g : Gh} {b : Bool} {V : Value} (h : VR g (.bool b) V) : V = .bool b := by cases h; rfl
theorem vr_sl {g : Gh} {b : Ps} {off len cap : Nat} {V : Value} (h : VR g (.sl b off len cap true) V) : ∃ B o, g.μ b = some (B, o) ∧ V = .slice (some ⟨B, o + off, none⟩) len cap := by
  cases h with
  | sl _ _ _ _ CAP h ht => exact ⟨_, _, h, by rw [ht]; rfl⟩
section
variable (x : S28) (s3 s4 s5 : ByteArray) (V1 V2 : Value)
def oF : Nat → Value := fun n => match n with
  | 0 => .string x.f1
  | 1 => V1
  | 2 => V2
  | 3 => .string s3
  | 4 => .string s4
  | 5 => .string s5
  | _ => .nilFunc
theorem few_known (W : World) (hx : k28.K W x [.bool x.f0, .string x.f1, V1, V2]) {k : Nat} {B : Bool} (hB : toponymlaw33_few.f k [] [] [] [x] s3 s4 s5 = some B) :
    KnownOk Tryz.prog (cxT (T6 x.f0 B) W (oF x s3 s4 s5 V1 V2)) W.heap.size := by
  intro f xs h v hv g w XS H hxs
  obtain ⟨rfl, hv⟩ := known_inv hv
  obtain ⟨b, rfl, hl, rfl⟩ := fewT_inv hv
  refine ⟨hasF6 _ _ _, .bool B, .bool B, ?_⟩
  have ho : g.o = oF x s3 s4 s5 V1 V2 := H.base.o
  have hbel : Below W.heap.size W w := H.base.below
  obtain ⟨A0, L0, e0, h0, i1⟩ := vrs1 hxs
  obtain ⟨A1, L1, rfl, h1, i2⟩ := vrs1 i1
  obtain ⟨A2, L2, rfl, h2, i3⟩ := vrs1 i2
  obtain rfl := vrs0 i3
  obtain ⟨B1, o1, hm, rfl⟩ := vr_sl h1
  obtain ⟨c0, rfl, j0⟩ := vr_agg h0
  obtain ⟨a0, l0, e1, k0, j1⟩ := vrs1 j0
  obtain ⟨a1, l1, rfl, k1, j2⟩ := vrs1 j1
  obtain ⟨a2, l2, rfl, k2, j3⟩ := vrs1 j2
  obtain rfl := vrs0 j3
  obtain rfl := vr_nils k0
  obtain rfl := vr_nils k1
  obtain rfl := vr_nils k2
  have ec0 : c0 = #[.slice none 0 0, .slice none 0 0, .slice none 0 0] := by rw [← Array.toList_inj, e1]
  subst ec0
  obtain ⟨c2, rfl, j4⟩ := vr_agg h2
  obtain ⟨b0, m0, e2, q0, j5⟩ := vrs1 j4
  obtain ⟨b1, m1, rfl, q1, j6⟩ := vrs1 j5
  obtain ⟨b2, m2, rfl, q2, j7⟩ := vrs1 j6
  obtain rfl := vrs0 j7
  have q0 := vr_opq q0
  have q1 := vr_opq q1
  have q2 := vr_opq q2
  rw [ho] at q0 q1 q2
  subst q0 q1 q2
  have ec2 : c2 = #[.string s3, .string s4, .string s5] := by rw [← Array.toList_inj, e2]; rfl
  subst ec2
  have eXS : XS = #[.agg #[.slice none 0 0, .slice none 0 0, .slice none 0 0], .slice (some ⟨B1, o1 + 0, none⟩) 1 1, .agg #[.string s3, .string s4, .string s5]] := by rw [← Array.toList_inj, e0]
  subst eXS
  obtain ⟨B2, o2, L, hm2, hlen, hcell, hvs, _⟩ := loadC_ok H hl
  rw [hm] at hm2
  obtain ⟨rfl, rfl⟩ : B1 = B2 ∧ o1 = o2 := by injection hm2 with e; injection e with e1 e2; exact ⟨e1, e2⟩
  have hL : L = [.bool x.f0, .string x.f1, V1, V2] := by
    obtain ⟨a, l, rfl, y0, hvs⟩ := vrs1 (show VRs g [.bool x.f0, .opq 1 0, .opq 0 1, .opq 0 2] L from hvs)
    obtain ⟨a', l, rfl, y1, hvs⟩ := vrs1 hvs
    obtain ⟨a'', l, rfl, y2, hvs⟩ := vrs1 hvs
    obtain ⟨a''', l, rfl, y3, hvs⟩ := vrs1 hvs
    obtain rfl := vrs0 hvs
    rw [vr_bool y0, vr_opq y1, vr_opq y2, vr_opq y3, ho]
    rfl
  subst hL
  have hK : k28.K w x [.bool x.f0, .string x.f1, V1, V2] := k28.K_below hbel hx
  have hC : Kd.C k28 w (some ⟨B1, o1 + 0, none⟩) [x].length [x] := by
    refine ⟨rfl, by simp, fun _ => ⟨_, rfl, fun j p hp => ?_⟩⟩
    have hj : j = 0 := by
      cases j with
      | zero => rfl
      | succ j => simp at hp
    subst hj
    obtain rfl : x = p := by simpa using hp
    refine ⟨_, rfl, hK, fun i u hu => ?_⟩
    have := hcell i u hu
    rw [Nat.zero_mul, Nat.zero_add]
    rw [Nat.add_zero] at this
    have e : (⟨B1, o1 + 0, none⟩ : Addr).add i = ⟨B1, o1 + i, none⟩ := by
      unfold Addr.add
      split
      · rename_i hi; subst hi; rfl
      · rfl
    rw [e]
    exact this
  exact toponymlaw33_few.calls k none 0 [] none 0 [] none 0 [] (some ⟨B1, o1 + 0, none⟩) 1 [x] s3 s4 s5 B w ⟨rfl, by decide, fun h => absurd h (by simp)⟩ (Nat.le_refl _) ⟨rfl, by decide, fun h => absurd h (by simp)⟩ (Nat.le_refl _) ⟨rfl, by decide, fun h => absurd h (by simp)⟩ (Nat.le_refl _) hC (Nat.le_refl _) hB
theorem walk_of (W : World) (hx : k28.K W x [.bool x.f0, .string x.f1, V1, V2]) (v1 : (∀ cs, V1 ≠ .agg cs) ∧ ∀ vs, V1 ≠ .tuple vs) (v2 : (∀ cs, V2 ≠ .agg cs) ∧ ∀ vs, V2 ≠ .tuple vs) :
    Calls Tryz.prog 3 #[.agg #[.bool x.f0, .string x.f1, V1, V2], .agg #[.string s3, .string s4, .string s5]] W fun e w' => e = .returned (.bool true) ∧ Below W.heap.size W w' := by
  obtain ⟨k, B, hB⟩ := few33 x s3 s4 s5
  have hS := sound (T6 x.f0 B) W (oF x s3 s4 s5 V1 V2) (few_known x s3 s4 s5 V1 V2 W hx hB)
  have hr : answer ((run (cxT (T6 x.f0 B) W (oF x s3 s4 s5 V1 V2)) 3000).call (.fn 3 [] []) [.agg (actR x.f0), .agg askR] ⟨.nil, .h, []⟩) = true := by
    cases hd : x.f0 <;> cases B
    · exact ff _ _
    · exact ft _ _
    · exact tf _ _
    · exact tt _ _
  obtain ⟨h', hr⟩ := answer_inv hr
  have so : ∀ s : ByteArray, (∀ cs, Value.string s ≠ .agg cs) ∧ ∀ vs, Value.string s ≠ .tuple vs := fun s => ⟨fun _ h => (by cases h), fun _ h => (by cases h)⟩
  have st : ∀ s : ByteArray, okq 1 (.string s) := fun s => ⟨fun _ => ⟨s, rfl⟩, fun h => absurd h (by decide)⟩
  have an : ∀ V : Value, okq 0 V := fun V => ⟨fun h => absurd h (by decide), fun h => absurd h (by decide)⟩
  have one : ∀ v ∈ actR x.f0, v.one = true := by
    intro v hv
    simp only [actR, List.mem_cons, List.mem_nil_iff, or_false] at hv
    rcases hv with rfl | rfl | rfl | rfl <;> rfl
  have one2 : ∀ v ∈ askR, v.one = true := by
    intro v hv
    simp only [askR, List.mem_cons, List.mem_nil_iff, or_false] at hv
    rcases hv with rfl | rfl | rfl <;> rfl
  exact run_ok hS rfl hr (txt _ _ _) (.cons (.agg (.cons (.bool _) (.cons (.opq 1 0 rfl (st _) (so _)) (.cons (.opq 0 1 rfl (an _) v1) (.cons (.opq 0 2 rfl (an _) v2) .nil)))) one)
    (.cons (.agg (.cons (.opq 1 3 rfl (st _) (so _)) (.cons (.opq 1 4 rfl (st _) (so _)) (.cons (.opq 1 5 rfl (st _) (so _)) .nil))) one2) .nil))
end
namespace indexNobody
open Go.WideShapes
theorem ofAsk : Of Tryz.prog (Kd.pair Kd.string (Kd.pair Kd.string Kd.string)) 30 := of_struct Tryz.underlying30 (by kernel_rfl) (ofF_cons (of_string Tryz.underlying9) rfl (by kernel_rfl) (ofF_cons (of_string Tryz.underlying9) rfl (by kernel_rfl) (ofF_one (of_string Tryz.underlying9) rfl (by kernel_rfl))))
theorem walk {H : Type} {enc : TypeId × Value → H} (W : World) (base : Nat) (v0 v1 : Value) (o0 : Value.okWide Tryz.prog W .any base 28 v0) (o1 : Value.okWide Tryz.prog W .any base 30 v1) {d0 d1 : DataW H} {p0 p1 : List MemPlace}
    (h0 : DataW.Trod enc Tryz.prog W 0 (fun _ => true) true 28 v0 d0 p0) (h1 : DataW.Trod enc Tryz.prog W 0 (fun _ => true) true 30 v1 d1 p1) :
    Calls Tryz.prog 3 #[v0, v1] W fun e w' => e = .returned (.bool true) ∧ Below W.heap.size W w' := by
  obtain ⟨cs, rfl, _⟩ := okWide_struct Tryz.underlying28 o0
  obtain ⟨cs1, rfl, _⟩ := okWide_struct Tryz.underlying30 o1
  obtain ⟨n0, h0⟩ := h0
  obtain ⟨n1, h1⟩ := h1
  obtain ⟨x, hx⟩ := of28 _ _ _ _ _ _ _ _ _ h0
  obtain ⟨y, hy⟩ := ofAsk _ _ _ _ _ _ _ _ _ h1
  have hx0 := hx
  obtain ⟨c0, cr, e0, k0, c1, cr1, e1, k1, c2, c3, e2, ⟨A, c, k2, _, _⟩, ⟨A', c', k3, _, _⟩⟩ := hx
  have k0 : c0 = [.bool x.f0] := k0
  have k1 : c1 = [.string x.f1] := k1
  subst k0 k1 k2 k3 e2 e1
  obtain ⟨b0, br, f0, j0, b1, b2, f1, j1, j2⟩ := hy
  have j0 : b0 = [.string y.1] := j0
  have j1 : b1 = [.string y.2.1] := j1
  have j2 : b2 = [.string y.2.2] := j2
  subst j0 j1 j2 f1
  have e0' : cs.toList = [.bool x.f0, .string x.f1, .slice A x.f2.f0.length c, .slice A' x.f2.f1.length c'] := e0
  have f0' : cs1.toList = [.string y.1, .string y.2.1, .string y.2.2] := f0
  have ecs : cs = #[.bool x.f0, .string x.f1, .slice A x.f2.f0.length c, .slice A' x.f2.f1.length c'] := by rw [← Array.toList_inj, e0']
  have ecs1 : cs1 = #[.string y.1, .string y.2.1, .string y.2.2] := by rw [← Array.toList_inj, f0']
  subst ecs ecs1
  exact walk_of x y.1 y.2.1 y.2.2 _ _ W hx0 ⟨fun _ h => (by cases h), fun _ h => (by cases h)⟩ ⟨fun _ h => (by cases h), fun _ h => (by cases h)⟩
#print axioms walk
end indexNobody
end Go.Proofs.YtkoacjmccdeggaaGreatDoor
