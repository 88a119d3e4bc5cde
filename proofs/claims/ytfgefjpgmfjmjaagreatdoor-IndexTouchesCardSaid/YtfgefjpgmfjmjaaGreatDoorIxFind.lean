/- What the functions of the index do, each once. -/
import Derived.Test.YtfgefjpgmfjmjaaGreatDoorIxData
import Derived.Test.YtfgefjpgmfjmjaaGreatDoorIxShelf
import Derived.Deep.QuietTactic
import Derived.BigQuiet
import Derived.RegionTactic
import Derived.Deep.LoopGhost
import Derived.Below
namespace Go.Proofs.YtfgefjpgmfjmjaaGreatDoor
open Go Go.RowKit Go.Shelf Go.Lib

/-- Sites in memory. -/
def SitesAt (w : World) (v : Value) (l : List Site) : Prop :=
  ∃ oa c, v = .slice oa l.length c ∧ l.length ≤ maxLen ∧ (0 < l.length → ∃ b off, oa = some ⟨b, off, none⟩ ∧ ∀ j, j < l.length → ∀ i u, (encSite l[j]!)[i]? = some u → w.cell? ⟨b, off + j * 2 + i, none⟩ = some u)
abbrev IRow := Sym × Value × List Site
def encIRow (r : IRow) : List Value := encSym r.1 ++ [r.2.1]
def RowsAt (w : World) (v : Value) (rs : List IRow) : Prop :=
  ∃ oa c, v = .slice oa rs.length c ∧ rs.length ≤ maxLen ∧ (0 < rs.length → ∃ b off, oa = some ⟨b, off, none⟩ ∧ ∀ j, j < rs.length → ∀ i u, (encIRow rs[j]!)[i]? = some u → w.cell? ⟨b, off + j * 6 + i, none⟩ = some u)

def rowFor (s : Sym) (r : IRow) : Bool := symEq r.1 s

theorem find_hit {α : Type} [Inhabited α] {p : α → Bool} {rs : List α} {k : Nat} (hk : k < rs.length) (h : p rs[k]! = true) (A : ∀ j, j < k → p rs[j]! = false) : rs.find? p = some rs[k]! := by
  induction rs generalizing k with
  | nil => simp at hk
  | cons r rs ih =>
    cases k with
    | zero =>
      have : p r = true := by simpa using h
      simp [this]
    | succ k =>
      have h0 : p r = false := by simpa using A 0 (Nat.succ_pos _)
      rw [List.find?_cons, h0]
      have := ih (k := k) (by simpa using hk) (by simpa using h) (fun j hj => by simpa using A (j + 1) (Nat.succ_lt_succ hj))
      simpa using this
theorem find_miss {α : Type} [Inhabited α] {p : α → Bool} {rs : List α} (A : ∀ j, j < rs.length → p rs[j]! = false) : rs.find? p = none := by
  rw [List.find?_eq_none]
  intro x hx
  obtain ⟨i, hi, rfl⟩ := List.getElem_of_mem hx
  have := A i hi
  rw [getElem!_pos rs i hi] at this
  simp [this]

/-- The cells of a symbol. -/
structure SymCells (w : World) (b o : Nat) (s : Sym) : Prop where
  c0 : w.cell? ⟨b, o, none⟩ = some (.string s.1)
  c1 : w.cell? ⟨b, o + 1, none⟩ = some (.string s.2.1)
  c2 : w.cell? ⟨b, o + 2, none⟩ = some (.string s.2.2.1)
  c3 : w.cell? ⟨b, o + 3, none⟩ = some (.int .i64 s.2.2.2.1)
  c4 : w.cell? ⟨b, o + 4, none⟩ = some (.string s.2.2.2.2)
theorem SymCells.of {w : World} {b o : Nat} {s : Sym} (h : ∀ i u, (encSym s)[i]? = some u → w.cell? ⟨b, o + i, none⟩ = some u) : SymCells w b o s :=
  ⟨h 0 _ rfl, h 1 _ rfl, h 2 _ rfl, h 3 _ rfl, h 4 _ rfl⟩
theorem SymCells.mono {B : Nat} {w w' : World} {b o : Nat} {s : Sym} (h : SymCells w b o s) (hB : Below B w w') (hb : b < B) : SymCells w' b o s :=
  ⟨(hB.cell hb).trans h.c0, (hB.cell hb).trans h.c1, (hB.cell hb).trans h.c2, (hB.cell hb).trans h.c3, (hB.cell hb).trans h.c4⟩
theorem SymCells.drewN {w : World} {b o : Nat} {s : Sym} (h : SymCells w b o s) (q : Nat) : SymCells (w.drewN q) b o s :=
  ⟨by rw [World.cell?_drewN]; exact h.c0, by rw [World.cell?_drewN]; exact h.c1, by rw [World.cell?_drewN]; exact h.c2, by rw [World.cell?_drewN]; exact h.c3, by rw [World.cell?_drewN]; exact h.c4⟩
theorem SymCells.block {w : World} {b o : Nat} {s : Sym} (h : SymCells w b o s) : b < w.heap.size := World.block_lt_of_cell? w _ h.c0
theorem SymCells.new (w : World) (s : Sym) (t : TypeId) : SymCells (w.alloc (.cells (encSym s).toArray t)) w.heap.size 0 s :=
  SymCells.of fun i u hu => by
    have := World.cell?_alloc_mark w (encSym s).toArray t (0, 0) i
    rw [Nat.zero_add, this]; simpa using hu

theorem RowsAt.cell {w : World} {rs : List IRow} {b off : Nat} (h : ∀ j, j < rs.length → ∀ i u, (encIRow rs[j]!)[i]? = some u → w.cell? ⟨b, off + j * 6 + i, none⟩ = some u) {j : Nat} (hj : j < rs.length) :
    SymCells w b (off + j * 6) rs[j]!.1 ∧ w.cell? ⟨b, off + j * 6 + 5, none⟩ = some rs[j]!.2.1 :=
  ⟨SymCells.of fun i u hu => h j hj i u (by rw [encIRow, List.getElem?_append_left (List.getElem?_eq_some_iff.1 hu).1]; exact hu), h j hj 5 _ rfl⟩

theorem eql_sym (x y : Sym) (w : World) : Sem.run Tryz.prog (binOp .eql 50 (.agg #[.string x.1, .string x.2.1, .string x.2.2.1, .int .i64 x.2.2.2.1, .string x.2.2.2.2]) (.agg #[.string y.1, .string y.2.1, .string y.2.2.1, .int .i64 y.2.2.2.1, .string y.2.2.2.2])) w = .ok (.bool (symEq x y)) w := eqlSym.1 x y w

/-- What the document's Find gives. -/
def RefFound (s : Sym) (rs : List IRow) (e : Ending) : Prop :=
  match rs.find? (rowFor s) with
  | some r => e = .returned (.tuple #[r.2.1, .bool true])
  | none => e = .returned (.tuple #[.slice none 0 0, .bool false])

theorem RefFound.hit {s : Sym} {rs : List IRow} {r : IRow} (h : rs.find? (rowFor s) = some r) : RefFound s rs (.returned (.tuple #[r.2.1, .bool true])) := by unfold RefFound; rw [h]
theorem RefFound.miss {s : Sym} {rs : List IRow} (h : rs.find? (rowFor s) = none) : RefFound s rs (.returned (.tuple #[.slice none 0 0, .bool false])) := by unfold RefFound; rw [h]

set_option maxHeartbeats 2000000 in
theorem refFind (s : Sym) (rv : Value) (rs : List IRow) (w : World) (hr : RowsAt w rv rs) :
    Calls Tryz.prog 19 #[.agg #[rv], .agg (encSym s).toArray] w fun e w' => RefFound s rs e ∧ Below w.heap.size w w' := by
  obtain ⟨oa, c, rfl, hlen, hcells⟩ := hr
  have hbig : (rs.length : Int) ≤ 9223372036854775807 := by unfold maxLen at hlen; omega
  have C : Aside (0 < rs.length → ∃ b off, oa = some ⟨b, off, none⟩ ∧ ∀ j, j < rs.length → ∀ i u, (encIRow rs[j]!)[i]? = some u → w.cell? ⟨b, off + j * 6 + i, none⟩ = some u) := hcells
  clear hcells
  go_enter Tryz.func19, Tryz.ntmps19
  go_wp2
  have B2 : Below w.heap.size w ((w.alloc (.cells #[Value.slice oa rs.length c] 46)).alloc (.cells (encSym s).toArray 50)) := ((Below.refl _ w).alloc (Nat.le_refl _) _).alloc (by simp) _
  have hb2 : ((w.alloc (.cells #[Value.slice oa rs.length c] 46)).alloc (.cells (encSym s).toArray 50)).cell? ⟨w.heap.size, 0, none⟩ = some (.slice oa rs.length c) := Lib.cell?_alloc_some _ (by simp)
  have hb3 : SymCells ((w.alloc (.cells #[Value.slice oa rs.length c] 46)).alloc (.cells (encSym s).toArray 50)) (w.heap.size + 1) 0 s := by
    have := SymCells.new (w.alloc (.cells #[Value.slice oa rs.length c] 46)) s 50
    have e : (w.alloc (.cells #[Value.slice oa rs.length c] 46)).heap.size = w.heap.size + 1 := by simp
    rw [e] at this
    exact this
  generalize hw2 : (w.alloc (.cells #[Value.slice oa rs.length c] 46)).alloc (.cells (encSym s).toArray 50) = w2 at *
  have B3 : Aside (Below w.heap.size w w2 ∧ SymCells w2 (w.heap.size + 1) 0 s) := ⟨B2, hb3⟩
  clear B2 hb3
  go_loopg [6] rs.length (fun g s6 wr => ∃ kk q : Nat, kk ≤ rs.length ∧ rs.length - kk ≤ g ∧ s6 = .int .i64 kk ∧ wr = w2.drewN q ∧ Aside (∀ j, j < kk → rowFor s rs[j]! = false))
  case atStart => exact ⟨0, 0, Nat.zero_le _, by omega, rfl, rfl, fun j hj => absurd hj (Nat.not_lt_zero _)⟩
  case round =>
    obtain ⟨kk, q, hkk, hg, rfl, rfl, A⟩ := hrel
    have hx : (w2.drewN q).cell? ⟨w.heap.size, 0, none⟩ = some (.slice oa rs.length c) := by rw [World.cell?_drewN]; exact hb2
    have hxm : ∀ m, ((w2.drewN q).drewN m).cell? ⟨w.heap.size, 0, none⟩ = some (.slice oa rs.length c) := fun m => by rw [World.cell?_drewN]; exact hx
    by_cases hlt : kk < rs.length
    · have hltz : (kk : Int) < (rs.length : Int) := by omega
      obtain ⟨b, off, rfl, hcells⟩ := C.out (by omega)
      obtain ⟨hsym, hsit⟩ := RowsAt.cell hcells hlt
      obtain ⟨B2, hb3⟩ := B3.out
      have hbl := hsym.block
      have k3 := fun m => (hb3.drewN q).drewN m
      have k4 := fun m => ((hsym.mono B2 hbl).drewN q).drewN m
      have k5 : ∀ m, ((w2.drewN q).drewN m).cell? ⟨b, off + kk * 6 + 5, none⟩ = some rs[kk]!.2.1 := fun m => by rw [World.cell?_drewN, World.cell?_drewN]; exact (B2.cell hbl).trans hsit
      have p0 := fun m => (k3 m).c0
      have p1 := fun m => (k3 m).c1
      have p2 := fun m => (k3 m).c2
      have p3 := fun m => (k3 m).c3
      have p4 := fun m => (k3 m).c4
      have r0 := fun m => (k4 m).c0
      have r1 := fun m => (k4 m).c1
      have r2 := fun m => (k4 m).c2
      have r3 := fun m => (k4 m).c3
      have r4 := fun m => (k4 m).c4
      clear hsym hsit B2 hb3 k3 k4 hcells hb2
      generalize hrk : rs[kk]! = r at *
      have R : Aside (rs[kk]! = r) := hrk
      clear hrk
      have heq := fun w => eql_sym r.1 s w
      have hgd := eqlSym.2
      generalize hwq : w2.drewN q = wq at *
      cases hq : symEq r.1 s with
      | true =>
        rw [hq] at heq
        go_wp2_with fail
        go_quiet (fail)
        go_wp2
        go_ret2
        refine ⟨?_, ?_⟩
        · have := find_hit (p := rowFor s) hlt (by rw [R.out]; exact hq) A.out
          rw [R.out] at this
          exact RefFound.hit this
        · rw [← hwq, World.drewN_drewN]; exact below_drewN_q B3.out.1 _
      | false =>
        rw [hq] at heq
        go_wp2_with fail
        go_quiet (fail)
        go_wp2
        go_roundg (rs.length - (kk + 1))
        case measure => omega
        case rel =>
          refine ⟨kk + 1, q + nq, by omega, by omega, by go_num, by rw [← hwq, World.drewN_drewN], (show Aside _ from fun j hj => ?_)⟩
          by_cases e : j = kk
          · subst e
            rw [R.out]; exact hq
          · exact A.out j (by omega)
    · have hltz : ¬ (kk : Int) < (rs.length : Int) := by omega
      have : kk = rs.length := by omega
      subst this
      go_wp2
      go_ret2
      refine ⟨?_, ?_⟩
      · exact RefFound.miss (find_miss A.out)
      · exact below_drewN_q B3.out.1 _
end Go.Proofs.YtfgefjpgmfjmjaaGreatDoor
