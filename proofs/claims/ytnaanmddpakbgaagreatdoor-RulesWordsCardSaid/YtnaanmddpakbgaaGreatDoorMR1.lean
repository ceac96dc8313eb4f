/- RulesWords: a part of its proof. No condition. -/
import Derived.Test.YtnaanmddpakbgaaGreatDoorME5
import Derived.WideShapes
set_option maxRecDepth 100000
namespace Go.Proofs.YtnaanmddpakbgaaGreatDoor.rulesWords
open Go Go.E Go.RowKit
noncomputable def awakeT : List RV → Hp → Option RV := fun xs _ => match xs with
  | [] => some (.bool true)
  | _ => none
noncomputable def T1 : Tr (List RV → Hp → Option RV) := (Tr.nil.set awakeT (toPs 12)).getD .nil
def all12 : List (List Nat) := [[], [101, 120, 97, 99, 116], [102, 111, 108, 100], [105, 110, 116, 101, 103, 101, 114], [98, 111, 111, 108, 101, 97, 110], [111, 99, 116, 101, 116, 115], [110, 97, 109, 101], [110, 117, 109, 101, 114, 105, 99], [112, 104, 111, 110, 101], [111, 105, 100], [103, 97, 117, 115, 115], [110, 101, 97, 114]]
def wordsR : List RV := .ops 1 all12 :: all12.map RV.str
noncomputable def goes (r : RV) (w : World) (v : Nat → Value) : Bool := wordsR.all fun x => answer ((run (cxT T1 w v) 3000).call (.fn 3 [] []) [r, x] ⟨.nil, .h, []⟩)
theorem r1 (w : World) (v : Nat → Value) : goes (.int .i64 1) w v = true := by kernel_rfl
theorem r2 (w : World) (v : Nat → Value) : goes (.int .i64 2) w v = true := by kernel_rfl
theorem r3 (w : World) (v : Nat → Value) : goes (.int .i64 3) w v = true := by kernel_rfl
theorem r4 (w : World) (v : Nat → Value) : goes (.int .i64 4) w v = true := by kernel_rfl
theorem r5 (w : World) (v : Nat → Value) : goes (.int .i64 5) w v = true := by kernel_rfl
theorem r6 (w : World) (v : Nat → Value) : goes (.int .i64 6) w v = true := by kernel_rfl
theorem r7 (w : World) (v : Nat → Value) : goes (.int .i64 7) w v = true := by kernel_rfl
theorem r8 (w : World) (v : Nat → Value) : goes (.int .i64 8) w v = true := by kernel_rfl
theorem r9 (w : World) (v : Nat → Value) : goes (.int .i64 9) w v = true := by kernel_rfl
theorem r10 (w : World) (v : Nat → Value) : goes (.int .i64 10) w v = true := by kernel_rfl
theorem r11 (w : World) (v : Nat → Value) : goes (.int .i64 11) w v = true := by kernel_rfl
theorem rLow (w : World) (v : Nat → Value) : goes (.opq 5 0) w v = true := by kernel_rfl
theorem rHigh (w : World) (v : Nat → Value) : goes (.opq 28 0) w v = true := by kernel_rfl
theorem txt (T : Tr (List RV → Hp → Option RV)) (w : World) (v : Nat → Value) : textFn (cxT T w v) (.fn 3 [] []) = true := by kernel_rfl
theorem txt12 (T : Tr (List RV → Hp → Option RV)) (w : World) (v : Nat → Value) : textFn (cxT T w v) (.fn 12 [] []) = true := by kernel_rfl
theorem known (W : World) (o : Nat → Value) (t3 t4 t5 : TypeId) (hT : TabsAt (tabs t3 t4 t5) W) : KnownOk Tryz.prog (cxT T1 W o) W.heap.size := by
  intro f xs h v hv g w XS H hxs
  obtain ⟨t, h1, h2⟩ := bnd_inv hv
  have h3 : T1.get (toPs f) = some t := h1
  unfold T1 at h3
  cases e : Tr.nil.set awakeT (toPs 12) with
  | none => rw [e] at h3; cases h3
  | some t' =>
    rw [e] at h3
    have h4 : t'.get (toPs f) = some t := h3
    rw [Tr.set_ok e] at h4
    split at h4
    · rename_i hq
      have := toPs_inj hq
      subst this
      rw [← Option.some.inj h4] at h2
      have ex : xs = [] := by
        unfold awakeT at h2
        split at h2
        · rfl
        · cases h2
      subst ex
      have ev : v = .bool true := (Option.some.inj h2).symm
      subst ev
      refine ⟨?_, .bool true, .bool true, ?_⟩
      · obtain ⟨fn, mk, code, t1, t2⟩ := textFn_inv (txt12 T1 W o)
        exact ⟨fn, mk, code, t1, t2⟩
      have hX : XS = #[] := by
        generalize hE : XS.toList = E at hxs
        cases hxs
        rw [← Array.toList_inj, hE]
      subst hX
      exact awake22 w t3 t4 t5 (hT.below H.base.below)
    · cases h4
def oF (i : Int) (s : ByteArray) : Nat → Value := fun n => match n with
  | 0 => .int .i64 i
  | 1 => .string s
  | _ => .nilFunc
theorem io (i : Int) : (∀ cs, Value.int .i64 i ≠ .agg cs) ∧ ∀ vs, Value.int .i64 i ≠ .tuple vs := ⟨fun _ h => (by cases h), fun _ h => (by cases h)⟩
theorem walk_of (W : World) (t3 t4 t5 : TypeId) (hT : TabsAt (tabs t3 t4 t5) W) (i : Int) (s : ByteArray) : Calls Tryz.prog 3 #[.int .i64 i, .string s] W fun e w' => e = .returned (.bool true) ∧ Below W.heap.size W w' := by
  have hS := sound T1 W (oF i s) (known W (oF i s) t3 t4 t5 hT)
  let g : Gh := ⟨fun _ => none, fun _ => 0, oF i s⟩
  have hw : ∃ x ∈ wordsR, VR g x (.string s) := by
    by_cases hm : (s.data.toList.map UInt8.toNat) ∈ all12
    · exact ⟨.str _, List.mem_cons_of_mem _ (List.mem_map.2 ⟨_, hm, rfl⟩), .str _ s rfl⟩
    · exact ⟨.ops 1 all12, List.mem_cons_self, .ops 1 all12 s rfl fun l hl e => hm (by rw [e]; exact hl)⟩
  have hr : ∃ r, goes r W (oF i s) = true ∧ VR g r (.int .i64 i) := by
    by_cases h1 : i < 1
    · exact ⟨_, rLow W _, .opq 5 0 rfl (okq_lt (c := 1) h1) (io i)⟩
    by_cases h2 : 12 ≤ i
    · exact ⟨_, rHigh W _, .opq 28 0 rfl (okq_ge (c := 12) h2) (io i)⟩
    rcases (by omega : i = 1 ∨ i = 2 ∨ i = 3 ∨ i = 4 ∨ i = 5 ∨ i = 6 ∨ i = 7 ∨ i = 8 ∨ i = 9 ∨ i = 10 ∨ i = 11) with rfl | rfl | rfl | rfl | rfl | rfl | rfl | rfl | rfl | rfl | rfl
    · exact ⟨_, r1 W _, .int _ _⟩
    · exact ⟨_, r2 W _, .int _ _⟩
    · exact ⟨_, r3 W _, .int _ _⟩
    · exact ⟨_, r4 W _, .int _ _⟩
    · exact ⟨_, r5 W _, .int _ _⟩
    · exact ⟨_, r6 W _, .int _ _⟩
    · exact ⟨_, r7 W _, .int _ _⟩
    · exact ⟨_, r8 W _, .int _ _⟩
    · exact ⟨_, r9 W _, .int _ _⟩
    · exact ⟨_, r10 W _, .int _ _⟩
    · exact ⟨_, r11 W _, .int _ _⟩
  obtain ⟨x, hx1, hx2⟩ := hw
  obtain ⟨r, hr1, hr2⟩ := hr
  obtain ⟨h', hrun⟩ := answer_inv (List.all_eq_true.1 hr1 x hx1)
  exact run_ok hS rfl hrun (txt _ _ _) (.cons hr2 (.cons hx2 .nil))
open Go.WideShapes
theorem walk {H : Type} {enc : TypeId × Value → H} (W : World) (hlaid : laidMet Tryz.prog Rows.rulesWordsRow.laid W) (base : Nat) (v0 v1 : Value) (o0 : Value.okWide Tryz.prog W .any base 3 v0) (o1 : Value.okWide Tryz.prog W .any base 9 v1) {d0 d1 : DataW H} {p0 p1 : List MemPlace}
    (_ : DataW.Trod enc Tryz.prog W 0 (fun _ => true) true 3 v0 d0 p0) (_ : DataW.Trod enc Tryz.prog W 0 (fun _ => true) true 9 v1 d1 p1) :
    Calls Tryz.prog 3 #[v0, v1] W fun e w' => e = .returned (.bool true) ∧ Below W.heap.size W w' := by
  obtain ⟨i, rfl⟩ := okWide_int Tryz.underlying3 o0
  obtain ⟨s, rfl⟩ := okWide_string Tryz.underlying9 o1
  obtain ⟨t3, t4, t5, hT⟩ := tabs_of W hlaid
  exact walk_of W t3 t4 t5 hT i s
#print axioms walk
end Go.Proofs.YtnaanmddpakbgaaGreatDoor.rulesWords
