/- TreeNobody: a part of its proof. No condition. -/
import Derived.Test.YtkoacjmccdeggaaGreatDoorMT1
import Derived.Test.YtkoacjmccdeggaaGreatDoorME5
import Derived.Test.YtkoacjmccdeggaaGreatDoorMTK
import Derived.Test.YtkoacjmccdeggaaGreatDoorMTTo
import Derived.WideShapes
set_option maxRecDepth 100000
namespace Go.Proofs.YtkoacjmccdeggaaGreatDoor.treeNobody
open Go Go.E Go.RowKit Go.Proofs.YtkoacjmccdeggaaGreatDoorW.PrintWords PTreeNobody
theorem vrs1 {g : Gh} {a : RV} {l : List RV} {L : List Value} (h : VRs g (a :: l) L) : ∃ A L',L = A :: L'∧VR g a A∧VRs g l L':=by
 cases h with
 | cons h hs => exact ⟨_,_,rfl,h,hs⟩
theorem vrs0 {g : Gh} {L : List Value} (h : VRs g [] L) : L = []:=by
 cases h; rfl
theorem vr_agg {g : Gh} {l : List RV} {V : Value} (h : VR g (.agg l) V) : ∃ cs : Array Value,V = .agg cs∧VRs g l cs.toList:=by
 cases h with
 | agg h h1 => exact ⟨_,rfl,h⟩
theorem vr_nils {g : Gh} {V : Value} (h : VR g .nils V) : V = .slice none 0 0:=by cases h; rfl
theorem vr_opq {g : Gh} {q n : Nat} {V : Value} (h : VR g (.opq q n) V) : V = g.o n:=by
 cases h with
 | opq _ _ h => exact h.symm
theorem vr_bool {g : Gh} {b : Bool} {V : Value} (h : VR g (.bool b) V) : V = .bool b:=by cases h; rfl
theorem vr_int {g : Gh} {k : IntKind} {n : Int} {V : Value} (h : VR g (.int k n) V) : V = .int k n:=by cases h; rfl
theorem vr_str {g : Gh} {l : List Nat} {V : Value} (h : VR g (.str l) V) : V = .string ⟨(l.map UInt8.ofNat).toArray⟩:=by
 cases h with
 | str _ s h =>
   subst h
   congr 1
   have : (s.data.toList.map UInt8.toNat).map UInt8.ofNat = s.data.toList:=by
    rw [List.map_map]
    have : (UInt8.ofNat ∘ UInt8.toNat) = id:=by funext x; simp
    rw [this,List.map_id]
   rw [this]
theorem vr_sl {g : Gh} {b : Ps} {off len cap : Nat} {V : Value} (h : VR g (.sl b off len cap true) V) : ∃ B o,g.μ b = some (B,o)∧V = .slice (some ⟨B,o + off,none⟩) len cap:=by
 cases h with
 | sl _ _ _ _ CAP h ht => exact ⟨_,_,h,by rw [ht]; rfl⟩
def flatV : RV→Option Value
 | .bool b => some (.bool b)
 | .int k n => some (.int k n)
 | .str l => some (.string ⟨(l.map UInt8.ofNat).toArray⟩)
 | .nils => some (.slice none 0 0)
 | _ => none
def flatVs : List RV→Option (List Value)
 | [] => some []
 | v :: l => match flatV v,flatVs l with
   | some a,some r => some (a :: r)
   | _,_ => none
theorem vr_flat {g : Gh} {v : RV} {V U : Value} (h : VR g v V) (hf : flatV v = some U) : V = U:=by
 cases v <;> first | (cases hf; done) | skip
 · cases hf; exact vr_bool h
 · cases hf; exact vr_int h
 · cases hf; exact vr_str h
 · cases hf; exact vr_nils h
theorem vrs_flat {g : Gh} : ∀ {l : List RV} {L U : List Value},VRs g l L→flatVs l = some U→L = U
 | [],L,U,h,hf => by cases hf; exact vrs0 h
 | v :: l,L,U,h,hf => by
   obtain ⟨A,L',rfl,h1,h2⟩:=vrs1 h
   unfold flatVs at hf
   split at hf
   · rename_i a r ha hr
     cases hf
     rw [vr_flat h1 ha,vrs_flat h2 hr]
   · cases hf
theorem kdC_of {α : Type} {k : Kd α} {w : World} {B o : Nat} {L : List Value} {xs : List α} (hcell : ∀ i u,L[i]? = some u→w.cell? ⟨B,o + i,none⟩ = some u) (hb : xs.length≤1000)
 (h : ∀ j p,xs[j]? = some p→∃ c,c.length = k.sz∧k.K w p c∧∀ i u,c[i]? = some u→L[j * k.sz + i]? = some u) : Kd.C k w (some ⟨B,o,none⟩) xs.length xs:=by
 refine ⟨rfl,by omega,fun _ => ⟨_,rfl,fun j p hp => ?_⟩⟩
 obtain ⟨c,h1,h2,h3⟩:=h j p hp
 refine ⟨c,h1,h2,fun i u hu => ?_⟩
 have:=hcell _ _ (h3 i u hu)
 have e : (⟨B,o,none⟩ : Addr).add (j * k.sz + i) = ⟨B,o + (j * k.sz + i),none⟩:=by
  unfold Addr.add
  split
  · rename_i hi; rw [hi]; rfl
  · rfl
 rw [e]
 exact this
theorem fewT_inv {kc : RV} {B : Bool} {xs : List RV} {h : Hp} {v : RV} (hv : fewT kc B xs h = some v) : ∃ b1 b2 b b3,xs = [.agg [.sl b1 0 2 2 true,.sl b2 0 1 1 true],.sl b 0 1 1 true]∧loadC h b1 0 12 = some attrC∧loadC h b2 0 5 = some (clsC ++ [.sl b3 0 2 2 true,.nils])∧loadC h b3 0 2 = some mustC∧loadC h b 0 4 = some (actR kc)∧v = .bool B:=by
 unfold fewT at hv
 split at hv
 · rename_i b1 b2 b
   obtain ⟨c1,h1,hv⟩:=bnd_inv hv
   obtain ⟨c2,h2,hv⟩:=bnd_inv hv
   split at hv
   · rename_i n m ab b3
     obtain ⟨c3,h3,hv⟩:=bnd_inv hv
     obtain ⟨cs,h4,hv⟩:=bnd_inv hv
     split at hv
     · rename_i kk
       obtain ⟨k1,hv1⟩:=ifB_none hv
       obtain ⟨k2,hv2⟩:=ifB_none hv1
       obtain ⟨k3,hv3⟩:=ifB_none hv2
       obtain ⟨k4,hv4⟩:=ifB_none hv3
       clear hv hv1 hv2 hv3
       have k1:=(eqFs_ok k1).1
       have k2:=(eqFs_ok k2).1
       have k3:=(eqFs_ok k3).1
       have k4:=sameV_eq k4
       subst k1 k2 k4
       refine ⟨b1,b2,b,b3,rfl,h1,?_,h3,h4,(Option.some.inj hv4).symm⟩
       rw [h2,← k3]
       rfl
     · cases hv
   · cases hv
 · cases hv
theorem known_inv {kc : RV} {B : Bool} {w : World} {o : Nat→Value} {f : FuncId} {xs : List RV} {h : Hp} {v : RV} (hv : knownV (cxT (T2 kc B) w o) f xs h = some v) : (f = 21∧fewT kc B xs h = some v)∨(f = 23∧awakeT xs h = some v):=by
 obtain ⟨t,h1,h2⟩:=bnd_inv hv
 have h3 : (T2 kc B).get (toPs f) = some t:=h1
 unfold T2 at h3
 cases e : Tr.nil.set (fewT kc B) (toPs 21) with
 | none => cases e
 | some t1 =>
   rw [e] at h3
   simp only [Option.getD_some] at h3
   cases e2 : t1.set awakeT (toPs 23) with
   | none => rw [e2] at h3; cases h3
   | some t2 =>
     rw [e2] at h3
     have h4 : t2.get (toPs f) = some t:=h3
     rw [Tr.set_ok e2] at h4
     split at h4
     · rename_i hq
       have:=toPs_inj hq
       subst this
       rw [← Option.some.inj h4] at h2
       exact .inr ⟨rfl,h2⟩
     · rw [Tr.set_ok e] at h4
       split at h4
       · rename_i hq
         have:=toPs_inj hq
         subst this
         rw [← Option.some.inj h4] at h2
         exact .inl ⟨rfl,h2⟩
       · cases h4
section
variable (x : S66) (V1 V2 sc : Value)
def oF : Nat→Value:=fun n => match n with
 | 0 => .int .i64 x.f0
 | 1 => .string x.f1
 | 2 => V1
 | 3 => V2
 | 4 => sc
 | _ => .nilFunc
theorem few_known (W : World) (hx : k66.K W x [.int .i64 x.f0,.string x.f1,V1,V2]) {kc : RV} (hkc : ∀ g V,g.o 0 = .int .i64 x.f0→VR g kc V→V = .int .i64 x.f0) {k : Nat} {B : Bool} (hB : toponymlaw32_Few.f k at0 cl0 [x] = some B) :
 KnownOk Tryz.prog (cxT (T2 kc B) W (oF x V1 V2 sc)) W.heap.size:=by
 intro f xs h v hv g w XS H hxs
 rcases known_inv hv with ⟨rfl,hv1⟩ | ⟨rfl,hv1⟩
 · obtain ⟨b1,b2,b,b3,rfl,l1,l2,l3,l4,rfl⟩:=fewT_inv hv1
   refine ⟨?_,.bool B,.bool B,?_⟩
   · obtain ⟨fn,mk,code,t1,t2⟩:=textFn_inv (txt21 (T2 kc B) W (oF x V1 V2 sc))
     exact ⟨fn,mk,code,t1,t2⟩
   have ho : g.o = oF x V1 V2 sc:=H.base.o
   have hbel : Below W.heap.size W w:=H.base.below
   obtain ⟨A0,L0,e0,h0,i1⟩:=vrs1 hxs
   obtain ⟨A1,L1,rfl,h1,i2⟩:=vrs1 i1
   obtain rfl:=vrs0 i2
   obtain ⟨c0,rfl,j0⟩:=vr_agg h0
   obtain ⟨a0,m0,e1,k0,j1⟩:=vrs1 j0
   obtain ⟨a1,m1,rfl,k1,j2⟩:=vrs1 j1
   obtain rfl:=vrs0 j2
   obtain ⟨B1,o1,hm1,rfl⟩:=vr_sl k0
   obtain ⟨B2,o2,hm2,rfl⟩:=vr_sl k1
   obtain ⟨B4,o4,hm4,rfl⟩:=vr_sl h1
   have ec0 : c0 = #[.slice (some ⟨B1,o1 + 0,none⟩) 2 2,.slice (some ⟨B2,o2 + 0,none⟩) 1 1]:=by rw [← Array.toList_inj,e1]
   subst ec0
   have eXS : XS = #[.agg #[.slice (some ⟨B1,o1 + 0,none⟩) 2 2,.slice (some ⟨B2,o2 + 0,none⟩) 1 1],.slice (some ⟨B4,o4 + 0,none⟩) 1 1]:=by rw [← Array.toList_inj,e0]
   subst eXS
   obtain ⟨B1',o1',X1,n1,p1,q1,r1,_⟩:=loadC_ok H l1
   obtain ⟨B2',o2',X2,n2,p2,q2,r2,_⟩:=loadC_ok H l2
   obtain ⟨B4',o4',X4,n4,p4,q4,r4,_⟩:=loadC_ok H l4
   rw [hm1] at n1; rw [hm2] at n2; rw [hm4] at n4
   cases n1; cases n2; cases n4
   obtain rfl:=vrs_flat r1 (U:=[.string ⟨#[99,108,115]⟩,.string ⟨#[]⟩,.int .i64 9,.int .i64 9,.bool false,.bool false,.string ⟨#[99,110]⟩,.string ⟨#[]⟩,.int .i64 1,.int .i64 2,.bool false,.bool false]) rfl
   obtain ⟨z0,y1,rfl,w0,r2⟩:=vrs1 (show VRs g [.str [116,104,105,110,103],.str [],.bool false,.sl b3 0 2 2 true,.nils] X2 from r2)
   obtain ⟨z1,y2,rfl,w1,r2⟩:=vrs1 r2
   obtain ⟨z2,y3,rfl,w2,r2⟩:=vrs1 r2
   obtain ⟨z3,y4,rfl,w3,r2⟩:=vrs1 r2
   obtain ⟨z4,y5,rfl,w4,r2⟩:=vrs1 r2
   obtain rfl:=vrs0 r2
   obtain rfl:=vr_flat w0 (U:=.string ⟨#[116,104,105,110,103]⟩) rfl
   obtain rfl:=vr_flat w1 (U:=.string ⟨#[]⟩) rfl
   obtain rfl:=vr_flat w2 (U:=.bool false) rfl
   obtain rfl:=vr_flat w4 (U:=.slice none 0 0) rfl
   obtain ⟨B3,o3,hm3,rfl⟩:=vr_sl w3
   obtain ⟨B3',o3',X3,n3,p3,q3,r3,_⟩:=loadC_ok H l3
   rw [hm3] at n3
   cases n3
   obtain rfl:=vrs_flat r3 (U:=[.string ⟨#[99,108,115]⟩,.string ⟨#[99,110]⟩]) rfl
   obtain ⟨z0,y1,rfl,w0,r4⟩:=vrs1 (show VRs g [kc,.opq 1 1,.opq 0 2,.opq 0 3] X4 from r4)
   obtain ⟨z1,y2,rfl,w1,r4⟩:=vrs1 r4
   obtain ⟨z2,y3,rfl,w2,r4⟩:=vrs1 r4
   obtain ⟨z3,y4,rfl,w3,r4⟩:=vrs1 r4
   obtain rfl:=vrs0 r4
   obtain rfl:=hkc g _ (by rw [ho]; rfl) w0
   have w1:=vr_opq w1
   have w2:=vr_opq w2
   have w3:=vr_opq w3
   rw [ho] at w1 w2 w3
   subst w1 w2 w3
   have cells : ∀ {B o : Nat} {L : List Value},(∀ i u,L[i]? = some u→w.cell? ⟨B,o + 0 + i,none⟩ = some u)→∀ i u,L[i]? = some u→w.cell? ⟨B,(o + 0) + i,none⟩ = some u:=fun h => h
   have C1 : Kd.C k86 w (some ⟨B1,o1 + 0,none⟩) at0.length at0:=kdC_of (q1) (by decide) fun j p hp => by
    match j,hp with
    | 0,hp =>
      cases hp
      exact ⟨[.string ⟨#[99,108,115]⟩,.string ⟨#[]⟩,.int .i64 9,.int .i64 9,.bool false,.bool false],rfl,⟨[_],_,rfl,rfl,[_],_,rfl,rfl,[_],_,rfl,rfl,[_],_,rfl,rfl,[_],_,rfl,rfl,rfl⟩,fun i u hu => by
       match i,hu with
       | 0,hu => exact hu
       | 1,hu => exact hu
       | 2,hu => exact hu
       | 3,hu => exact hu
       | 4,hu => exact hu
       | 5,hu => exact hu
       | i + 6,hu => simp at hu⟩
    | 1,hp =>
      cases hp
      exact ⟨[.string ⟨#[99,110]⟩,.string ⟨#[]⟩,.int .i64 1,.int .i64 2,.bool false,.bool false],rfl,⟨[_],_,rfl,rfl,[_],_,rfl,rfl,[_],_,rfl,rfl,[_],_,rfl,rfl,[_],_,rfl,rfl,rfl⟩,fun i u hu => by
       match i,hu with
       | 0,hu => exact hu
       | 1,hu => exact hu
       | 2,hu => exact hu
       | 3,hu => exact hu
       | 4,hu => exact hu
       | 5,hu => exact hu
       | i + 6,hu => simp at hu⟩
    | j + 2,hp => simp [at0] at hp
   have C3 : Kd.C Kd.string w (some ⟨B3,o3 + 0,none⟩) 2 [(⟨#[99,108,115]⟩ : ByteArray),(⟨#[99,110]⟩ : ByteArray)]:=kdC_of (xs:=[(⟨#[99,108,115]⟩ : ByteArray),(⟨#[99,110]⟩ : ByteArray)]) q3 (by decide) fun j p hp => by
    match j,hp with
    | 0,hp => cases hp; exact ⟨[.string ⟨#[99,108,115]⟩],rfl,rfl,fun i u hu => by
       match i,hu with
       | 0,hu => exact hu
       | i + 1,hu => simp at hu⟩
    | 1,hp => cases hp; exact ⟨[.string ⟨#[99,110]⟩],rfl,rfl,fun i u hu => by
       match i,hu with
       | 0,hu => exact hu
       | i + 1,hu => simp at hu⟩
    | j + 2,hp => simp at hp
   have C2 : Kd.C k134 w (some ⟨B2,o2 + 0,none⟩) cl0.length cl0:=kdC_of q2 (by decide) fun j p hp => by
    match j,hp with
    | 0,hp =>
      cases hp
      exact ⟨[.string ⟨#[116,104,105,110,103]⟩,.string ⟨#[]⟩,.bool false,.slice (some ⟨B3,o3 + 0,none⟩) 2 2,.slice none 0 0],rfl,⟨[_],_,rfl,rfl,[_],_,rfl,rfl,[_],_,rfl,rfl,[_],_,rfl,⟨_,_,rfl,Nat.le_refl _,C3⟩,⟨_,_,rfl,Nat.le_refl _,⟨rfl,by decide,fun h => absurd h (by simp)⟩⟩⟩,fun i u hu => by
       match i,hu with
       | 0,hu => exact hu
       | 1,hu => exact hu
       | 2,hu => exact hu
       | 3,hu => exact hu
       | 4,hu => exact hu
       | i + 5,hu => simp at hu⟩
    | j + 1,hp => simp [cl0] at hp
   have hK:=k66.K_below hbel hx
   have C4 : Kd.C k66 w (some ⟨B4,o4 + 0,none⟩) [x].length [x]:=kdC_of (xs:=[x]) q4 (by simp) fun j p hp => by
    match j,hp with
    | 0,hp =>
      cases hp
      exact ⟨_,rfl,hK,fun i u hu => by
       match i,hu with
       | 0,hu => exact hu
       | 1,hu => exact hu
       | 2,hu => exact hu
       | 3,hu => exact hu
       | i + 4,hu => simp at hu⟩
    | j + 1,hp => simp at hp
   exact toponymlaw32_Few.calls k _ 2 at0 _ 1 cl0 _ 1 [x] B w C1 (by decide) C2 (by decide) C4 (Nat.le_refl _) hB
 · have ex : xs = []:=by
    unfold awakeT at hv1
    split at hv1
    · rfl
    · cases hv1
   subst ex
   have ev : v = .bool true:=(Option.some.inj hv1).symm
   subst ev
   refine ⟨?_,.bool true,.bool true,?_⟩
   · obtain ⟨fn,mk,code,t1,t2⟩:=textFn_inv (txt23 (T2 kc B) W (oF x V1 V2 sc))
     exact ⟨fn,mk,code,t1,t2⟩
   have : XS = #[]:=by
    have:=vrs0 hxs
    rw [← Array.toList_inj,this]
   subst this
   exact awake32 w
theorem so (s : ByteArray) : (∀ cs,Value.string s≠.agg cs)∧∀ vs,Value.string s≠.tuple vs:=⟨fun _ h => (by cases h),fun _ h => (by cases h)⟩
theorem io (i : Int) : (∀ cs,Value.int .i64 i≠.agg cs)∧∀ vs,Value.int .i64 i≠.tuple vs:=⟨fun _ h => (by cases h),fun _ h => (by cases h)⟩
theorem go (W : World) (hx : k66.K W x [.int .i64 x.f0,.string x.f1,V1,V2]) (s : Int) (hs : sc = .int .i64 s) (v1 : (∀ cs,V1≠.agg cs)∧∀ vs,V1≠.tuple vs) (v2 : (∀ cs,V2≠.agg cs)∧∀ vs,V2≠.tuple vs) {kc : RV} {B : Bool} {k : Nat} (hB : toponymlaw32_Few.f k at0 cl0 [x] = some B)
 (hkc : ∀ g V,g.o 0 = .int .i64 x.f0→VR g kc V→V = .int .i64 x.f0) (hk2 : ∀ g,g.o 0 = .int .i64 x.f0→VR g kc (.int .i64 x.f0)) (hone : kc.one = true)
 (hr : answer ((run (cxT (T2 kc B) W (oF x V1 V2 sc)) 3000).call (.fn 5 [] []) [.agg (actR kc),.opq 2 4] ⟨.nil,.h,[]⟩) = true) :
 Calls Tryz.prog 5 #[.agg #[.int .i64 x.f0,.string x.f1,V1,V2],.int .i64 s] W fun e w' => e = .returned (.bool true)∧Below W.heap.size W w':=by
 have hS:=sound (T2 kc B) W (oF x V1 V2 sc) (few_known x V1 V2 sc W hx hkc hB)
 obtain ⟨h',hr⟩:=answer_inv hr
 have one : ∀ v∈actR kc,v.one = true:=by
  intro v hv
  simp only [actR,List.mem_cons,List.mem_nil_iff,or_false] at hv
  rcases hv with rfl | rfl | rfl | rfl
  · exact hone
  · rfl
  · rfl
  · rfl
 exact run_ok hS rfl hr (txt _ _ _) (.cons (.agg (.cons (hk2 _ rfl) (.cons (.opq 1 1 rfl (okq_str _) (so _)) (.cons (.opq 0 2 rfl (okq_any _) v1) (.cons (.opq 0 3 rfl (okq_any _) v2) .nil)))) one) (.cons (.opq 2 4 hs (okq_int s) (io s)) .nil))
theorem walk_of (W : World) (hx : k66.K W x [.int .i64 x.f0,.string x.f1,V1,V2]) (s : Int) (v1 : (∀ cs,V1≠.agg cs)∧∀ vs,V1≠.tuple vs) (v2 : (∀ cs,V2≠.agg cs)∧∀ vs,V2≠.tuple vs) :
 Calls Tryz.prog 5 #[.agg #[.int .i64 x.f0,.string x.f1,V1,V2],.int .i64 s] W fun e w' => e = .returned (.bool true)∧Below W.heap.size W w':=by
 obtain ⟨k,B,hB⟩:=few32 x
 have oq : ∀ q,∀ g V,g.o 0 = .int .i64 x.f0→VR g (.opq q 0) V→V = .int .i64 x.f0:=fun q g V h1 h2 => (vr_opq h2).trans h1
 have iq : ∀ n,x.f0 = n→∀ g V,g.o 0 = .int .i64 x.f0→VR g (.int .i64 n) V→V = .int .i64 x.f0:=fun n hn g V _ h2 => by rw [vr_int h2,hn]
 have i2 : ∀ n,x.f0 = n→∀ g : Gh,g.o 0 = .int .i64 x.f0→VR g (.int .i64 n) (.int .i64 x.f0):=fun n hn g _ => by rw [hn]; exact .int _ _
 cases B with
 | false => exact go x V1 V2 (.int .i64 s) W hx s rfl v1 v2 hB (oq 2) (fun g h => .opq 2 0 h (okq_int _) (io _)) rfl (runF _ _)
 | true =>
   by_cases hn : x.f0 < 0
   · exact go x V1 V2 (.int .i64 s) W hx s rfl v1 v2 hB (oq 3) (fun g h => .opq 3 0 h (okq_lt (c:=0) hn) (io _)) rfl (runN _ _)
   by_cases h4 : 4≤x.f0
   · exact go x V1 V2 (.int .i64 s) W hx s rfl v1 v2 hB (oq 12) (fun g h => .opq 12 0 h (okq_ge (c:=4) h4) (io _)) rfl (runM _ _)
   rcases (by omega : x.f0 = 0∨x.f0 = 1∨x.f0 = 2∨x.f0 = 3) with h | h | h | h
   · exact go x V1 V2 (.int .i64 s) W hx s rfl v1 v2 hB (iq 0 h) (i2 0 h) rfl (run0 _ _)
   · exact go x V1 V2 (.int .i64 s) W hx s rfl v1 v2 hB (iq 1 h) (i2 1 h) rfl (run1 _ _)
   · exact go x V1 V2 (.int .i64 s) W hx s rfl v1 v2 hB (iq 2 h) (i2 2 h) rfl (run2 _ _)
   · exact go x V1 V2 (.int .i64 s) W hx s rfl v1 v2 hB (iq 3 h) (i2 3 h) rfl (run3 _ _)
end
open Go.WideShapes
theorem walk {H : Type} {enc : TypeId × Value→H} (W : World) (base : Nat) (v0 v1 : Value) (o0 : Value.okWide Tryz.prog W .any base 66 v0) (o1 : Value.okWide Tryz.prog W .any base 3 v1) {d0 d1 : DataW H} {p0 p1 : List MemPlace}
 (h0 : DataW.Trod enc Tryz.prog W 0 (fun _ => true) true 66 v0 d0 p0) (h1 : DataW.Trod enc Tryz.prog W 0 (fun _ => true) true 3 v1 d1 p1) :
 Calls Tryz.prog 5 #[v0,v1] W fun e w' => e = .returned (.bool true)∧Below W.heap.size W w':=by
 obtain ⟨cs,rfl,_⟩:=okWide_struct Tryz.underlying66 o0
 obtain ⟨n0,h0⟩:=h0
 obtain ⟨n1,h1⟩:=h1
 obtain ⟨x,hx⟩:=of66 _ _ _ _ _ _ _ _ _ h0
 obtain ⟨s,hs⟩:=(of_int (k:=.i64) Tryz.underlying3) _ _ _ _ _ _ _ _ _ h1
 have hs : v1.cells.toList = [.int .i64 s]:=hs
 have hx0:=hx
 obtain ⟨c0,cr,e0,k0,c1,cr1,e1,k1,c2,c3,e2,⟨A,c,k2,_,_⟩,⟨A',c',k3,_,_⟩⟩:=hx
 have k0 : c0 = [.int .i64 x.f0]:=k0
 have k1 : c1 = [.string x.f1]:=k1
 subst k0 k1 k2 k3 e2 e1
 have e0' : cs.toList = [.int .i64 x.f0,.string x.f1,.slice A x.f2.f0.length c,.slice A' x.f2.f1.length c']:=e0
 have ecs : cs = #[.int .i64 x.f0,.string x.f1,.slice A x.f2.f0.length c,.slice A' x.f2.f1.length c']:=by rw [← Array.toList_inj,e0']
 subst ecs
 obtain ⟨s',rfl⟩:=okWide_int Tryz.underlying3 o1
 exact walk_of x _ _ W hx0 s' ⟨fun _ h => (by cases h),fun _ h => (by cases h)⟩ ⟨fun _ h => (by cases h),fun _ h => (by cases h)⟩
#print axioms walk
end Go.Proofs.YtkoacjmccdeggaaGreatDoor.treeNobody
