/- Filters as they lie in memory, and how they read. No condition. -/
import Derived.Test.YtklbbnlhhfadcaaGreatDoorMGreatDoorRq
import Derived.KernelRfl
import Derived.Test.YtklbbnlhhfadcaaGreatDoorProg
set_option maxRecDepth 100000
namespace Go.Proofs.YtklbbnlhhfadcaaGreatDoor
open Go.RowKit Go.Wd Go.Rq

def strC (s : ByteArray) : List Value := [.string s]
/-- A filter's cells: its texts, and its lists' words. -/
structure Flt where
  kind : Int
  name : ByteArray
  value : ByteArray
  ini : ByteArray
  any : Hd
  fin : ByteArray
  hi : Bool
  hf : Bool
  rule : ByteArray
  dn : Bool
  kids : Hd
def Flt.cells (f : Flt) : List Value := [.int .i64 f.kind, .string f.name, .string f.value, .string f.ini, f.any.val, .string f.fin, .bool f.hi, .bool f.hf, .string f.rule, .bool f.dn, f.kids.val]
def Flt.none : Flt := ⟨0, ⟨#[]⟩, ⟨#[]⟩, ⟨#[]⟩, (Option.none, 0, 0), ⟨#[]⟩, false, false, ⟨#[]⟩, false, (Option.none, 0, 0)⟩
def FOk : Nat → World → Flt → Prop
  | 0 => fun _ _ => False
  | n + 1 => fun w f => HQ strC TT 1 w f.any ∧ HQ Flt.cells (FOk n) 11 w f.kids
theorem HQ.bel {α : Type} {f : α → List Value} {Q : World → α → Prop} {sz : Nat} {w w' : World} {a : Hd} (hb : Bel w w') (hq : ∀ z, Q w z → Q w' z) (h : HQ f Q sz w a) : HQ f Q sz w' a := by
  obtain ⟨zs, h1, h2, h3⟩ := h
  exact ⟨zs, h1, h2.bel hb, fun z hz => hq z (h3 z hz)⟩
theorem FOk.bel {w w' : World} (hb : Bel w w') : ∀ n f, FOk n w f → FOk n w' f
  | 0, _, h => h
  | n + 1, _, h => ⟨HQ.bel hb (fun _ h => h) h.1, HQ.bel hb (FOk.bel hb n) h.2⟩
theorem Of.down {P : Program} {α : Type} {f : α → List Value} {Q : World → α → Prop} {sz N M : Nat} {t : TypeId} (h : Of P f Q sz N t) (hm : M ≤ N) : Of P f Q sz M t := fun H enc w base sp held n cs x hn hx => h H enc w base sp held n cs x (by omega) hx
theorem ofStrs (N : Nat) : Of Tryz.prog Hd.cells (HQ strC TT 1) 1 N 29 := Of.down (hd_of Tryz.underlying29 (of_string Tryz.underlying9 (N := N)) (by kernel_rfl) (by decide)) (by omega)
def Pc := ByteArray × Hd × ByteArray × Bool × Bool
def Pc.cells (x : Pc) : List Value := [.string x.1, x.2.1.val, .string x.2.2.1, .bool x.2.2.2.1, .bool x.2.2.2.2]
def PQ (w : World) (x : Pc) : Prop := HQ strC TT 1 w x.2.1
theorem ofPieces (N : Nat) : Of Tryz.prog Pc.cells PQ 5 N 31 :=
  Of.down (of_map (f := fun x : ByteArray × Hd × ByteArray × Bool × Bool => [.string x.1] ++ (Hd.cells x.2.1 ++ ([.string x.2.2.1] ++ ([.bool x.2.2.2.1] ++ [.bool x.2.2.2.2])))) (Q := fun w x => TT w x.1 ∧ HQ strC TT 1 w x.2.1 ∧ TT w x.2.2.1 ∧ TT w x.2.2.2.1 ∧ TT w x.2.2.2.2) (fun a : ByteArray × Hd × ByteArray × Bool × Bool => ⟨a, rfl, fun w h => h.2.1⟩) (of_struct (N := N) Tryz.underlying31 (by kernel_rfl)
    (ofF_cons (of_string Tryz.underlying9) rfl (by kernel_rfl) (ofF_cons (s1 := 1) (f := Hd.cells) (ofStrs N) rfl (by kernel_rfl) (ofF_cons (of_string Tryz.underlying9) rfl (by kernel_rfl) (ofF_cons (of_bool Tryz.underlying4) rfl (by kernel_rfl) (ofF_one (of_bool Tryz.underlying4) rfl (by kernel_rfl)))))))) (Nat.le_succ N)
theorem ofKids (N : Nat) (h : Of Tryz.prog Flt.cells (FOk N) 11 N 34) : Of Tryz.prog Hd.cells (HQ Flt.cells (FOk N) 11) 1 N 32 := Of.down (hd_of Tryz.underlying32 h (by kernel_rfl) (by decide)) (Nat.le_succ N)
theorem ofFlt : ∀ N, Of Tryz.prog Flt.cells (FOk N) 11 N 34
  | 0 => fun _ _ _ _ _ _ _ _ _ hn => absurd hn (Nat.not_lt_zero _)
  | N + 1 => of_map (f := fun x : Int × ByteArray × ByteArray × Pc × ByteArray × Bool × Hd => [.int .i64 x.1] ++ ([.string x.2.1] ++ ([.string x.2.2.1] ++ (Pc.cells x.2.2.2.1 ++ ([.string x.2.2.2.2.1] ++ ([.bool x.2.2.2.2.2.1] ++ Hd.cells x.2.2.2.2.2.2)))))) (Q := fun w x => TT w x.1 ∧ TT w x.2.1 ∧ TT w x.2.2.1 ∧ PQ w x.2.2.2.1 ∧ TT w x.2.2.2.2.1 ∧ TT w x.2.2.2.2.2.1 ∧ HQ Flt.cells (FOk N) 11 w x.2.2.2.2.2.2) (fun a : Int × ByteArray × ByteArray × Pc × ByteArray × Bool × Hd => ⟨⟨a.1, a.2.1, a.2.2.1, a.2.2.2.1.1, a.2.2.2.1.2.1, a.2.2.2.1.2.2.1, a.2.2.2.1.2.2.2.1, a.2.2.2.1.2.2.2.2, a.2.2.2.2.1, a.2.2.2.2.2.1, a.2.2.2.2.2.2⟩, rfl, fun w h => ⟨h.2.2.2.1, h.2.2.2.2.2.2⟩⟩)
    (of_struct Tryz.underlying34 (by kernel_rfl) (ofF_cons (of_int Tryz.underlying3) rfl (by kernel_rfl) (ofF_cons (of_string Tryz.underlying9) rfl (by kernel_rfl) (ofF_cons (of_string Tryz.underlying9) rfl (by kernel_rfl)
      (ofF_cons (s1 := 5) (f := Pc.cells) (Q := PQ) (ofPieces N) rfl (by kernel_rfl) (ofF_cons (of_string Tryz.underlying9) rfl (by kernel_rfl) (ofF_cons (of_bool Tryz.underlying4) rfl (by kernel_rfl)
        (ofF_one (sz := 1) (f := Hd.cells) (Q := HQ Flt.cells (FOk N) 11) (ofKids N (ofFlt N)) rfl (by kernel_rfl)))))))))
end Go.Proofs.YtklbbnlhhfadcaaGreatDoor
