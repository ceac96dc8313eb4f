/- RulesWords: a part of its proof. No condition. -/
import Derived.Test.YtnaanmddpakbgaaGreatDoorME2
import Derived.Test.YtnaanmddpakbgaaGreatDoorMEi
import Derived.Test.YtnaanmddpakbgaaGreatDoorRows
set_option maxRecDepth 100000
namespace Go.Proofs.YtnaanmddpakbgaaGreatDoor
open Go Go.E Go.RowKit
def vs3 : List Int := [1, 10, 100, 1000, 10000, 100000, 1000000, 10000000, 100000000, 1000000000, 10000000000, 100000000000, 1000000000000, 10000000000000, 100000000000000, 1000000000000000, 10000000000000000, 100000000000000000, 1000000000000000000, 10000000000000000000]
def vs4 : List Int := [0, 1, 28, 2, 29, 14, 24, 3, 30, 22, 20, 15, 25, 17, 4, 8, 31, 27, 13, 23, 21, 19, 16, 7, 26, 12, 18, 6, 11, 5, 10, 9]
def vs5 : List Int := [0, 1, 56, 2, 57, 49, 28, 3, 61, 58, 42, 50, 38, 29, 17, 4, 62, 47, 59, 36, 45, 43, 51, 22, 53, 39, 33, 30, 24, 18, 12, 5, 63, 55, 48, 27, 60, 41, 37, 16, 46, 35, 44, 21, 52, 32, 23, 11, 54, 26, 40, 15, 34, 20, 31, 10, 25, 14, 19, 9, 13, 8, 7, 6]
def tabs (t3 t4 t5 : TypeId) : List Tab := [(3, vs3.map (RV.int .u64), t3), (4, vs4.map (RV.int .u8), t4), (5, vs5.map (RV.int .u8), t5)]
noncomputable def cxG (G : Tr Ps) (T : Tr (List RV → Hp → Option RV)) (w : World) (o : Nat → Value) : Ctx := ⟨Γ0, F0, G, X0, M0, T, w, o⟩
theorem soundG (G : Tr Ps) (T : Tr (List RV → Hp → Option RV)) (w : World) (v : Nat → Value) (hK : KnownOk Tryz.prog (cxG G T w v) w.heap.size) : Sound Tryz.prog (cxG G T w v) w.heap.size where
  tok := tok_of e_ty
  q := e_q
  orders := e_ord
  ftab := ftab_of e_fn (funs_of e_funs e_num)
  mtab := mtab_of e_m
  xok := xok_list e_x e_xs
  known := hK
theorem run22 (w : World) (o : Nat → Value) (t3 t4 t5 : TypeId) : answer ((run (cxG (tabG (tabs t3 t4 t5)) .nil w o) 3000).call (.fn 12 [] []) [] (tabHp (tabs t3 t4 t5) 8)) = true := by kernel_rfl
theorem txt12 (G : Tr Ps) (T : Tr (List RV → Hp → Option RV)) (w : World) (v : Nat → Value) : textFn (cxG G T w v) (.fn 12 [] []) = true := by kernel_rfl
theorem awake22 (w : World) (t3 t4 t5 : TypeId) (h : TabsAt (tabs t3 t4 t5) w) : Calls Tryz.prog 12 #[] w fun en w' => en = .returned (.bool true) ∧ Below w.heap.size w w' := by
  obtain ⟨h', hr⟩ := answer_inv (run22 w (fun _ => .nilFunc) t3 t4 t5)
  refine tab_run (cx := cxG (tabG (tabs t3 t4 t5)) .nil w (fun _ => .nilFunc)) (l := tabs t3 t4 t5) (n := 8) rfl h ?_ (soundG _ .nil w _ fun f xs h v hv => by cases hv) hr (txt12 _ _ _ _) .nil
  intro x hx
  simp only [tabs, List.mem_cons, List.mem_nil_iff, or_false] at hx
  rcases hx with rfl | rfl | rfl
  · exact (by decide : 3 < 8)
  · exact (by decide : 4 < 8)
  · exact (by decide : 5 < 8)
theorem tabs_of (w : World) (h : laidMet Tryz.prog Rows.rulesWordsRow.laid w) : ∃ t3 t4 t5, TabsAt (tabs t3 t4 t5) w := by
  obtain ⟨t3, CS3, fz3, h3, e3⟩ := tab_of_laid h (nm := "internal/strconv.uint64pow10") (g := 3) (n := 20) (t := 216) (e := 163) (k := .u64) (vs := vs3) (List.mem_cons_of_mem _ (List.mem_cons_of_mem _ List.mem_cons_self)) (by kernel_rfl) (by kernel_rfl) Tryz.underlying216 Tryz.underlying163 (by kernel_rfl) (by kernel_rfl)
  obtain ⟨t4, CS4, fz4, h4, e4⟩ := tab_of_laid h (nm := "math/bits.deBruijn32tab") (g := 4) (n := 32) (t := 264) (e := 5) (k := .u8) (vs := vs4) List.mem_cons_self (by kernel_rfl) (by kernel_rfl) Tryz.underlying264 Tryz.underlying5 (by kernel_rfl) (by kernel_rfl)
  obtain ⟨t5, CS5, fz5, h5, e5⟩ := tab_of_laid h (nm := "math/bits.deBruijn64tab") (g := 5) (n := 64) (t := 265) (e := 5) (k := .u8) (vs := vs5) (List.mem_cons_of_mem _ List.mem_cons_self) (by kernel_rfl) (by kernel_rfl) Tryz.underlying265 Tryz.underlying5 (by kernel_rfl) (by kernel_rfl)
  refine ⟨t3, t4, t5, fun x hx => ?_⟩
  simp only [tabs, List.mem_cons, List.mem_nil_iff, or_false] at hx
  rcases hx with rfl | rfl | rfl
  · exact ⟨CS3, fz3, h3, by rw [e3]; exact lits_ints _ _⟩
  · exact ⟨CS4, fz4, h4, by rw [e4]; exact lits_ints _ _⟩
  · exact ⟨CS5, fz5, h5, by rw [e5]; exact lits_ints _ _⟩
#print axioms awake22
end Go.Proofs.YtnaanmddpakbgaaGreatDoor
