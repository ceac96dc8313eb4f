/- TreeNobody: a part of its proof. No condition. -/
import Derived.Test.YtkoacjmccdeggaaGreatDoorPTreeNobodyx3
import Derived.ChangeArms
namespace Go.Proofs.YtkoacjmccdeggaaGreatDoor.PTreeNobody
open Go.RowKit Go.Proofs.YtkoacjmccdeggaaGreatDoorW.PrintWords Go.Proofs.YtkoacjmccdeggaaGreatDoorW.PrintLast Go.Proofs.YtkoacjmccdeggaaGreatDoorW.PrintMore
def Of (P : Program) {α : Type} (d : Kd α) (t : TypeId) : Prop:=
 ∀ (H : Type) (enc : TypeId × Value→H) (w : World) (base : Nat) (sp : Nat→Bool) (held : Bool) (n : Nat) (cs : List Value) (x : DataW H × List MemPlace),DataW.trod enc P w base sp held n t cs = some x→∃ a,d.K w a cs
def OfF (P : Program) {α : Type} (fs : List Field) (d : Kd α) (off : Nat) : Prop:=
 ∀ (H : Type) (enc : TypeId × Value→H) (w : World) (base : Nat) (sp : Nat→Bool) (held : Bool) (n : Nat) (cs : List Value),
   (∀ f∈fs,∃ y : DataW H × List MemPlace,DataW.trod enc P w base sp held n f.type ((cs.drop f.offset).take (P.cellsOf f.type)) = some y)→cs.length = off + d.sz→∃ a,d.K w a (cs.drop off)
section
variable {P : Program} {t : TypeId} {α β : Type}
theorem of_bool (ht : P.underlying t = some .bool) : Of P Kd.bool t:=fun _ _ _ _ _ _ _ _ _ h => by
 obtain ⟨b,rfl,_⟩:=DataW.trod_bool ht h
 exact ⟨b,rfl⟩
theorem of_int {k : IntKind} (ht : P.underlying t = some (.int k)) : Of P (Kd.int k) t:=fun _ _ _ _ _ _ _ _ _ h => by
 obtain ⟨b,rfl,_⟩:=DataW.trod_int ht h
 exact ⟨b,rfl⟩
theorem of_string (ht : P.underlying t = some .string) : Of P Kd.string t:=fun _ _ _ _ _ _ _ _ _ h => by
 obtain ⟨b,rfl,_⟩:=DataW.trod_string ht h
 exact ⟨b,rfl⟩
theorem list_of {R : Nat→α→Prop} : ∀ len,(∀ i,i < len→∃ y,R i y)→∃ xs : List α,xs.length = len∧∀ j p,xs[j]? = some p→R j p
 | 0,_ => ⟨[],rfl,fun j p h => by simp at h⟩
 | len + 1,h => by
   obtain ⟨xs,h1,h2⟩:=list_of len (fun i hi => h i (by omega))
   obtain ⟨y,hy⟩:=h len (by omega)
   refine ⟨xs ++ [y],by simp [h1],fun j p hp => ?_⟩
   by_cases hj : j < xs.length
   · rw [List.getElem?_append_left hj] at hp
     exact h2 j p hp
   · rw [List.getElem?_append_right (by omega)] at hp
     have hj2 : j - xs.length = 0:=by
      by_cases h0 : j - xs.length = 0
      · exact h0
      · rw [List.getElem?_eq_none (by simp; omega)] at hp
        cases hp
     have hj3 : j = len:=by omega
     subst hj3
     rw [hj2] at hp
     simp at hp
     subst hp
     exact hy
theorem of_slice {d : Kd α} {e : TypeId} {q : Nat} (ht : P.underlying t = some (.slice e)) (hd : Of P d e) : Of P (Kd.slice q d) t:=fun H enc w base sp held n cs x h => by
 rcases DataW.trod_slice ht h with ⟨rfl,_⟩ | ⟨a,len,cap,elems,rest,m,_,rfl,_,_,hl,hc,hlen,hel,_⟩
 · exact ⟨[],none,0,rfl,Nat.le_refl _,rfl,by simp,fun h => absurd h (by simp)⟩
 · have hE : ∀ i,i < len→∃ y,∃ c : List Value,c.length = d.sz∧d.K w y c∧∀ j u,c[j]? = some u→w.cell? (a.add (i * d.sz + j)) = some u:=by
    intro i hi
    have h1:=hel i hi
    rw [List.getElem?_eq_getElem (by omega)] at h1
    simp only [Option.bind_eq_some_iff] at h1
    obtain ⟨c,hc1,hc2⟩:=h1
    obtain ⟨y,hy⟩:=hd _ _ _ _ _ _ _ _ _ hc2
    have hk:=d.K_len hy
    unfold World.cells? at hc1
    split at hc1
    · have hn:=mapM_some_length hc1
      rw [List.length_range] at hn
      have hCd : P.cellsOf e = d.sz:=by omega
      refine ⟨y,c,hk,hy,fun j u hu => ?_⟩
      have hj : j < c.length:=(List.getElem?_eq_some_iff.1 hu).1
      have h3:=mapM_some_get hc1 j j (by rw [List.getElem?_eq_getElem (by simp; omega)]; simp)
      rw [hu] at h3
      have e1 : (a.add (i * d.sz)).add j = a.add (i * d.sz + j):=Addr.add_add _ _ _
      rw [hCd,e1] at h3
      exact h3
    · cases hc1
   obtain ⟨xs,hx1,hx2⟩:=list_of len hE
   have hm : maxLen≤9223372036854775807:=by decide
   subst hx1
   exact ⟨xs,some a,cap,rfl,hl,rfl,by omega,fun _ => ⟨a,rfl,fun j p hp => hx2 j p hp⟩⟩
theorem of_iso {d : Kd α} {f : β→α} (hf : ∀ a,∃ x,f x = a) (h : Of P d t) : Of P (Kd.iso d f) t:=fun H enc w base sp held n cs x hx => by
 obtain ⟨a,ha⟩:=h H enc w base sp held n cs x hx
 obtain ⟨y,rfl⟩:=hf a
 exact ⟨y,ha⟩
theorem ofF_one {d : Kd α} {f : Field} {off : Nat} (h : Of P d f.type) (ho : f.offset = off) (hs : P.cellsOf f.type = d.sz) : OfF P [f] d off:=fun H enc w base sp held n cs hy hl => by
 obtain ⟨y,hy⟩:=hy f (List.mem_singleton.2 rfl)
 obtain ⟨a,ha⟩:=h _ _ _ _ _ _ _ _ _ hy
 rw [ho,List.take_of_length_le (by rw [List.length_drop,hs]; omega)] at ha
 exact ⟨a,ha⟩
theorem ofF_cons {d1 : Kd α} {d2 : Kd β} {f : Field} {fs : List Field} {off : Nat} (h : Of P d1 f.type) (ho : f.offset = off) (hs : P.cellsOf f.type = d1.sz) (h2 : OfF P fs d2 (off + d1.sz)) : OfF P (f :: fs) (Kd.pair d1 d2) off:=fun H enc w base sp held n cs hy hl => by
 obtain ⟨y,hy1⟩:=hy f List.mem_cons_self
 obtain ⟨a,ha⟩:=h _ _ _ _ _ _ _ _ _ hy1
 have hl' : cs.length = off + (d1.sz + d2.sz):=hl
 obtain ⟨b,hb⟩:=h2 H enc w base sp held n cs (fun f hf => hy f (List.mem_cons_of_mem _ hf)) (by omega)
 rw [ho,hs] at ha
 refine ⟨(a,b),(cs.drop off).take d1.sz,cs.drop (off + d1.sz),?_,ha,hb⟩
 rw [← List.drop_drop,List.take_append_drop]
theorem of_struct {d : Kd α} {fs : Array Field} (ht : P.underlying t = some (.struct fs)) (hs : P.cellsOf t = d.sz) (h : OfF P fs.toList d 0) : Of P d t:=fun H enc w base sp held n cs x hx => by
 obtain ⟨xs,m,_,_,hl,hlen,hf⟩:=DataW.trod_struct ht hx
 have:=h H enc w base sp held m cs (fun f hf' => by
  obtain ⟨i,hi⟩:=List.mem_iff_getElem?.1 hf'
  have hi' : fs[i]? = some f:=by simpa using hi
  have:=hf i f hi'
  have hlt : i < xs.length:=by
   rw [hlen]
   exact (Array.getElem?_eq_some_iff.1 hi').1
  rw [List.getElem?_eq_getElem hlt] at this
  exact ⟨_,this⟩) (by omega)
 simpa using this
end
theorem of132 : Of Tryz.prog k132 132:=of_iso (fun a => ⟨⟨a.1,a.2⟩,rfl⟩) (of_struct Tryz.underlying132 (by kernel_rfl) (ofF_cons (of_string Tryz.underlying9) rfl (by kernel_rfl) (ofF_one (of_string Tryz.underlying9) rfl (by kernel_rfl))))
theorem of54 : Of Tryz.prog k54 54:=of_iso (fun a => ⟨⟨a.1,a.2⟩,rfl⟩) (of_struct Tryz.underlying54 (by kernel_rfl) (ofF_cons (of_string Tryz.underlying9) rfl (by kernel_rfl) (ofF_one (of_slice Tryz.underlying36 (of_string Tryz.underlying9)) rfl (by kernel_rfl))))
theorem of26 : Of Tryz.prog k26 26:=of_iso (fun a => ⟨⟨a.1,a.2⟩,rfl⟩) (of_struct Tryz.underlying26 (by kernel_rfl) (ofF_cons (of_slice Tryz.underlying23 (of_slice Tryz.underlying129 of132)) rfl (by kernel_rfl) (ofF_one (of_slice Tryz.underlying24 of54) rfl (by kernel_rfl))))
theorem of66 : Of Tryz.prog k66 66:=of_iso (fun a => ⟨⟨a.1,a.2.1,a.2.2⟩,rfl⟩) (of_struct Tryz.underlying66 (by kernel_rfl) (ofF_cons (of_int Tryz.underlying3) rfl (by kernel_rfl) (ofF_cons (of_string Tryz.underlying9) rfl (by kernel_rfl) (ofF_one of26 rfl (by kernel_rfl)))))
end Go.Proofs.YtkoacjmccdeggaaGreatDoor.PTreeNobody
