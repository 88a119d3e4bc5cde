/- Plain data of an index, and how it stands in memory. -/
import Derived.Test.YtfgefjpgmfjmjaaGreatDoorProg
import Derived.WalkKit
import Derived.Laws.StructEq
import Derived.Shelf.SlicesQ.Contains
import Derived.Shelf.SlicesE.Clone
import Derived.Shelf.SlicesQ.Equal
namespace Go.Proofs.YtfgefjpgmfjmjaaGreatDoor
open Go Go.RowKit Go.Shelf Go.Lib

abbrev Sym := ByteArray × ByteArray × ByteArray × Int × ByteArray
abbrev Site := ByteArray × Int
def encSym (s : Sym) : List Value := [.string s.1, .string s.2.1, .string s.2.2.1, .int .i64 s.2.2.2.1, .string s.2.2.2.2]
def encSite (s : Site) : List Value := [.string s.1, .int .i64 s.2]
abbrev RowV := Sym × Value
def encRow (r : RowV) : List Value := encSym r.1 ++ [r.2]
def symEq (x y : Sym) : Bool := x.1 == y.1 && x.2.1 == y.2.1 && x.2.2.1 == y.2.2.1 && x.2.2.2.1 == y.2.2.2.1 && x.2.2.2.2 == y.2.2.2.2
def siteEq (x y : Site) : Bool := x.1 == y.1 && x.2 == y.2

theorem byteArray_beq (a b : ByteArray) : (a == b) = true ↔ a = b := by
  obtain ⟨⟨x⟩⟩ := a
  obtain ⟨⟨y⟩⟩ := b
  show ((⟨x⟩ : Array UInt8) == ⟨y⟩) = true ↔ _
  simp
theorem symEq_iff (x y : Sym) : symEq x y = true ↔ x = y := by
  obtain ⟨a, b, c, d, e⟩ := x
  obtain ⟨a', b', c', d', e'⟩ := y
  simp only [symEq, Bool.and_eq_true, byteArray_beq, Prod.mk.injEq, beq_iff_eq]
  constructor
  · rintro ⟨⟨⟨⟨h1, h2⟩, h3⟩, h4⟩, h5⟩; exact ⟨h1, h2, h3, h4, h5⟩
  · rintro ⟨h1, h2, h3, h4, h5⟩; exact ⟨⟨⟨⟨h1, h2⟩, h3⟩, h4⟩, h5⟩
theorem siteEq_iff (x y : Site) : siteEq x y = true ↔ x = y := by
  obtain ⟨a, b⟩ := x
  obtain ⟨a', b'⟩ := y
  simp only [siteEq, Bool.and_eq_true, byteArray_beq, Prod.mk.injEq, beq_iff_eq]

theorem run_eq_sym (x y : Sym) (w : World) : (Op.equalIn 10000 50 (.agg (encSym x).toArray) (.agg (encSym y).toArray)).run Tryz.prog w = .ok (symEq x y) w := by
  have u3 := Tryz.underlying3
  have a3 := Tryz.isAgg3
  have z3 := Tryz.sizeOf3
  have u9 := Tryz.underlying9
  have a9 := Tryz.isAgg9
  have z9 := Tryz.sizeOf9
  have hS : Tryz.prog.underlying 50 = some (.struct (Tryz.prog.fieldsOf 50)) := by simp only [Program.fieldsOf, Tryz.underlying50]
  simp only [encSym]
  rw [show (10000 : Nat) = 9999 + 1 from rfl, run_equalIn_agg w 9999 50 _ _ hS Tryz.stoodInHeld50]
  simp only [Program.fieldsOf, Tryz.underlying50]
  go_simp
  simp only [symEq, beq_toListBytes]
  by_cases h1 : x.1.toList = y.1.toList <;> by_cases h2 : x.2.1.toList = y.2.1.toList <;> by_cases h3 : x.2.2.1.toList = y.2.2.1.toList <;> by_cases h4 : x.2.2.2.1 = y.2.2.2.1 <;> by_cases h5 : x.2.2.2.2.toList = y.2.2.2.2.toList <;> simp [h1, h2, h3, h4, h5]
theorem run_eq_site (x y : Site) (w : World) : (Op.equalIn 10000 60 (.agg (encSite x).toArray) (.agg (encSite y).toArray)).run Tryz.prog w = .ok (siteEq x y) w := by
  have u3 := Tryz.underlying3
  have a3 := Tryz.isAgg3
  have z3 := Tryz.sizeOf3
  have u9 := Tryz.underlying9
  have a9 := Tryz.isAgg9
  have z9 := Tryz.sizeOf9
  have hS : Tryz.prog.underlying 60 = some (.struct (Tryz.prog.fieldsOf 60)) := by simp only [Program.fieldsOf, Tryz.underlying60]
  simp only [encSite]
  rw [show (10000 : Nat) = 9999 + 1 from rfl, run_equalIn_agg w 9999 60 _ _ hS Tryz.stoodInHeld60]
  simp only [Program.fieldsOf, Tryz.underlying60]
  go_simp
  simp only [siteEq, beq_toListBytes]
  by_cases h1 : x.1.toList = y.1.toList <;> by_cases h2 : x.2 = y.2 <;> simp [h1, h2]
theorem eqlSym : EqlAt Tryz.prog 50 (fun x => .agg (encSym x).toArray) symEq :=
  ⟨fun x y w => by rw [run_eql_struct, run_eq_sym]; rfl, GuardAt.agg _ Tryz.eqGuardType50⟩
theorem eqlSite : EqlAt Tryz.prog 60 (fun x => .agg (encSite x).toArray) siteEq :=
  ⟨fun x y w => by rw [run_eql_struct, run_eq_site]; rfl, GuardAt.agg _ Tryz.eqGuardType60⟩
theorem neqSite : NeqAt Tryz.prog 60 (fun x => .agg (encSite x).toArray) siteEq :=
  ⟨fun x y w => by rw [run_neq_struct, run_eq_site]; rfl, GuardAt.agg _ Tryz.eqGuardType60⟩
theorem neqSym : NeqAt Tryz.prog 50 (fun x => .agg (encSym x).toArray) symEq :=
  ⟨fun x y w => by rw [run_neq_struct, run_eq_sym]; rfl, GuardAt.agg _ Tryz.eqGuardType50⟩
end Go.Proofs.YtfgefjpgmfjmjaaGreatDoor
