/- The tables of the program for the abstract machine, and that they are right. -/
import Derived.Test.YtfgefjpgmfjmjaaGreatDoorProg
import Derived.KernelRfl
import Derived.Test.YtfgefjpgmfjmjaaGreatDoorAbsMain
namespace Go.Proofs.YtfgefjpgmfjmjaaGreatDoor
open Go Go.Abs
noncomputable section

def plainTypes : List Nat := [7, 8, 23, 24, 28, 29, 31, 32, 34, 35, 36, 37, 39, 40, 45, 46, 49, 50, 54, 55, 59, 60, 62, 63, 75, 76, 83, 84, 97, 98, 119, 120, 127, 128, 140, 141, 143, 147, 148, 168, 169, 197, 198, 207, 237, 238, 239, 240, 271, 272, 283, 284, 292, 293, 311, 312, 325, 326]
def marks (l : List Nat) : Tree Unit := List.rec (motive := fun _ => Tree Unit) .leaf (fun t _ ih => ih.put t (some ())) l
theorem marks_mem : ∀ {l : List Nat} {t : Nat}, (marks l).get t = some () → t ∈ l
  | [], t, h => by cases h
  | a :: l, t, h => by
    replace h : ((marks l).put a (some ())).get t = some () := h
    rw [Tree.get_put] at h
    by_cases hta : t = a
    · simp [hta]
    · rw [if_neg hta] at h
      exact List.mem_cons_of_mem _ (marks_mem h)

def tyTree : Tree TypeInfo := Tree.ofList Tryz.prog.types.toList 0 .leaf
def fnTree : Tree Func := Tree.ofList Tryz.prog.funcs.toList 0 .leaf
def extTree : Tree Nat := (Tree.leaf.put 241 (some 0)).put 258 (some 1)
def plainTree : Tree Unit := marks plainTypes
def tabs : Tabs := { ty := tyTree, fns := fnTree, plain := plainTree, ext := extTree, glob := 0 }
theorem tyTree_get {t : Nat} {i : TypeInfo} (h : tyTree.get t = some i) : Tryz.prog.types[t]? = some i := by
  rw [tyTree, Tree.get_ofList_zero] at h
  simpa using h
theorem fnTree_get {t : Nat} {i : Func} (h : fnTree.get t = some i) : Tryz.prog.funcs[t]? = some i := by
  rw [fnTree, Tree.get_ofList_zero] at h
  simpa using h
theorem extTree_get {f k : Nat} (h : extTree.get f = some k) : (f = 241 ∧ k = 0) ∨ (f = 258 ∧ k = 1) := by
  rw [extTree, Tree.get_put, Tree.get_put] at h
  by_cases h1 : f = 258
  · rw [if_pos h1] at h; cases h; exact .inr ⟨h1, rfl⟩
  · rw [if_neg h1] at h
    by_cases h2 : f = 241
    · rw [if_pos h2] at h; cases h; exact .inl ⟨h2, rfl⟩
    · rw [if_neg h2] at h; cases h

theorem names : (Tryz.prog.funcs.toList.all fun fn => !(fn.name == "runtime.NumGoroutine")) = true := by kernel_rfl
theorem plains : (plainTypes.all fun t => !(Tryz.prog.eqGuardType Tryz.prog.depth t) && !(Tryz.prog.stoodInHeld t)) = true := by kernel_rfl

theorem info_of_types {P : Program} {t : TypeId} {i : TypeInfo} (h : P.types[t]? = some i) : P.info? t = some i := by
  unfold Tables.info?
  rw [if_pos (Array.getElem?_eq_some_iff.1 h).1, h]
theorem ty_ok (t : TypeId) (i : TypeInfo) (h : tyTree.get t = some i) : Tryz.prog.info? t = some i := info_of_types (tyTree_get h)
theorem fns_ok (f : FuncId) (fn : Func) (h : fnTree.get f = some fn) : Tryz.prog.funcs[f]? = some fn ∧ (fn.name == "runtime.NumGoroutine") = false := by
  have h' := fnTree_get h
  refine ⟨h', ?_⟩
  have := List.all_eq_true.1 names fn (List.mem_of_getElem? (by rw [Array.getElem?_toList]; exact h'))
  simpa using this
theorem ext0_ok (f : FuncId) (h : extTree.get f = some 0) : ∃ fn, Tryz.prog.funcs[f]? = some fn ∧ (fn.name == "runtime.NumGoroutine") = false ∧ fn.body.isNone = true ∧ Extern.findNext fn = none ∧ Extern.find fn = some Extern.BytealgIndexByte.indexByte := by
  rcases extTree_get h with ⟨rfl, _⟩ | ⟨_, h⟩
  · exact ⟨Tryz.f241, Tryz.func241, by kernel_rfl, by kernel_rfl, by kernel_rfl, by kernel_rfl⟩
  · cases h
theorem ext1_ok (f : FuncId) (h : extTree.get f = some 1) : ∃ fn, Tryz.prog.funcs[f]? = some fn ∧ (fn.name == "runtime.NumGoroutine") = false ∧ fn.body.isNone = true ∧ Extern.findNext fn = none ∧ Extern.find fn = some Extern.AbiNoEscape.same := by
  rcases extTree_get h with ⟨_, h⟩ | ⟨rfl, _⟩
  · cases h
  · exact ⟨Tryz.f258, Tryz.func258, by kernel_rfl, by kernel_rfl, by kernel_rfl, by kernel_rfl⟩
theorem plain_ok (t : TypeId) (h : plainTree.get t = some ()) : Tryz.prog.eqGuardType Tryz.prog.depth t = false ∧ Tryz.prog.stoodInHeld t = false := by
  rw [plainTree] at h
  have h' := List.all_eq_true.1 plains t (marks_mem h)
  rw [Bool.and_eq_true, Bool.not_eq_true', Bool.not_eq_true'] at h'
  exact h'
theorem mixed_ok : Tryz.prog.follows .mixedOrders = true := by kernel_rfl
theorem tabs_ty : tabs.ty = tyTree := by rw [tabs]
theorem tabs_fns : tabs.fns = fnTree := by rw [tabs]
theorem tabs_ext : tabs.ext = extTree := by rw [tabs]
theorem tabs_plain : tabs.plain = plainTree := by rw [tabs]
theorem tabs_glob : tabs.glob = 0 := by rw [tabs]
theorem tabs_ok : tabs.Ok Tryz.prog := by
  refine ⟨?_, ?_, ?_, ?_, ?_, mixed_ok⟩
  · rw [tabs_ty]; exact ty_ok
  · rw [tabs_fns]; exact fns_ok
  · rw [tabs_ext]; exact ext0_ok
  · rw [tabs_ext]; exact ext1_ok
  · rw [tabs_plain]; exact plain_ok
end
end Go.Proofs.YtfgefjpgmfjmjaaGreatDoor
