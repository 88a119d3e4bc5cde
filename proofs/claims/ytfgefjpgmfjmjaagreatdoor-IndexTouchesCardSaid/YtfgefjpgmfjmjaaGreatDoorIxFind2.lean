/- What the program's Find does. -/
import Derived.Test.YtfgefjpgmfjmjaaGreatDoorIxClone
namespace Go.Proofs.YtfgefjpgmfjmjaaGreatDoor
open Go Go.RowKit Go.Shelf Go.Lib

theorem SymCells.alloc {w : World} {b o : Nat} {s : Sym} (h : SymCells w b o s) (x : Obj) : SymCells (w.alloc x) b o s :=
  ⟨Lib.cell?_alloc_some _ h.c0, Lib.cell?_alloc_some _ h.c1, Lib.cell?_alloc_some _ h.c2, Lib.cell?_alloc_some _ h.c3, Lib.cell?_alloc_some _ h.c4⟩

/-- What the program's Find gives. -/
def Found (s : Sym) (rs : List IRow) (e : Ending) (w : World) : Prop :=
  match rs.find? (rowFor s) with
  | some r => ∃ v', e = .returned (.tuple #[v', .int .i64 0]) ∧ SitesAt w v' r.2.2
  | none => e = .returned (.tuple #[.slice none 0 0, .int .i64 4])
theorem Found.hit {s : Sym} {rs : List IRow} {r : IRow} {w : World} {v : Value} (h : rs.find? (rowFor s) = some r) (hv : SitesAt w v r.2.2) : Found s rs (.returned (.tuple #[v, .int .i64 0])) w := by unfold Found; rw [h]; exact ⟨v, rfl, hv⟩
theorem Found.miss {s : Sym} {rs : List IRow} {w : World} (h : rs.find? (rowFor s) = none) : Found s rs (.returned (.tuple #[.slice none 0 0, .int .i64 4])) w := by unfold Found; rw [h]

set_option maxHeartbeats 2000000 in
theorem ixFind (s : Sym) (rv : Value) (rs : List IRow) (w : World) (hr : RowsAt w rv rs) (hs : ∀ r ∈ rs, SitesAt w r.2.1 r.2.2 ∧ r.2.2.length ≤ 500) :
    Calls Tryz.prog 18 #[.agg #[rv], .agg (encSym s).toArray] w fun e w' => Found s rs e w' ∧ Below w.heap.size w w' := by
  obtain ⟨oa, c, rfl, hlen, hcells⟩ := hr
  have hbig : (rs.length : Int) ≤ 9223372036854775807 := by unfold maxLen at hlen; omega
  have C : Aside ((0 < rs.length → ∃ b off, oa = some ⟨b, off, none⟩ ∧ ∀ j, j < rs.length → ∀ i u, (encIRow rs[j]!)[i]? = some u → w.cell? ⟨b, off + j * 6 + i, none⟩ = some u) ∧ ∀ r ∈ rs, SitesAt w r.2.1 r.2.2 ∧ r.2.2.length ≤ 500) := ⟨hcells, hs⟩
  clear hcells hs
  go_enter Tryz.func18, Tryz.ntmps18
  go_wp2
  have B2 : Below w.heap.size w ((w.alloc (.cells #[Value.slice oa rs.length c] 46)).alloc (.cells (encSym s).toArray 50)) := ((Below.refl _ w).alloc (Nat.le_refl _) _).alloc (by simp) _
  have hb3 : SymCells ((w.alloc (.cells #[Value.slice oa rs.length c] 46)).alloc (.cells (encSym s).toArray 50)) (w.heap.size + 1) 0 s := by
    have := SymCells.new (w.alloc (.cells #[Value.slice oa rs.length c] 46)) s 50
    have e : (w.alloc (.cells #[Value.slice oa rs.length c] 46)).heap.size = w.heap.size + 1 := by simp
    rw [e] at this
    exact this
  generalize hw2 : (w.alloc (.cells #[Value.slice oa rs.length c] 46)).alloc (.cells (encSym s).toArray 50) = w2 at *
  have B3 : Aside (Below w.heap.size w w2 ∧ SymCells w2 (w.heap.size + 1) 0 s) := ⟨B2, hb3⟩
  clear B2 hb3
  go_loopg [11] rs.length (fun g s11 wr => ∃ kk : Nat, kk ≤ rs.length ∧ rs.length - kk ≤ g ∧ s11 = .int .i64 kk ∧ Aside (Below w2.heap.size w2 wr ∧ ∀ j, j < kk → rowFor s rs[j]! = false))
  case atStart => exact ⟨0, Nat.zero_le _, by omega, rfl, Below.refl _ _, fun j hj => absurd hj (Nat.not_lt_zero _)⟩
  case round =>
    obtain ⟨kk, hkk, hg, rfl, A⟩ := hrel
    by_cases hlt : kk < rs.length
    · have hltz : (kk : Int) < (rs.length : Int) := by omega
      obtain ⟨b, off, rfl, hcells⟩ := C.out.1 (by omega)
      obtain ⟨hsym, hsit⟩ := RowsAt.cell hcells hlt
      obtain ⟨B2, hb3⟩ := B3.out
      have hbl := hsym.block
      have hw2s : w.heap.size ≤ w2.heap.size := B2.size
      have k3 : SymCells wr (w.heap.size + 1) 0 s := hb3.mono A.out.1 hb3.block
      have k4 : SymCells wr b (off + kk * 6) rs[kk]!.1 := (hsym.mono B2 hbl).mono A.out.1 (by omega)
      have k5 : wr.cell? ⟨b, off + kk * 6 + 5, none⟩ = some rs[kk]!.2.1 := (A.out.1.cell (by show b < _; omega)).trans ((B2.cell hbl).trans hsit)
      have p0 := fun o => (k3.alloc o).c0
      have p1 := fun o => (k3.alloc o).c1
      have p2 := fun o => (k3.alloc o).c2
      have p3 := fun o => (k3.alloc o).c3
      have p4 := fun o => (k3.alloc o).c4
      have r0 := k4.c0
      have r1 := k4.c1
      have r2 := k4.c2
      have r3 := k4.c3
      have r4 := k4.c4
      have hwr : w2.heap.size ≤ wr.heap.size := A.out.1.size
      have n1 : ¬ (w.heap.size + 1 = wr.heap.size) := by have := hb3.block; omega
      have n2 : ¬ (b = wr.heap.size) := by omega
      have hmem : rs[kk]! ∈ rs := by rw [getElem!_pos rs kk hlt]; exact List.getElem_mem _
      obtain ⟨S0, hl5⟩ := C.out.2 _ hmem
      have S1 : SitesAt wr rs[kk]!.2.1 rs[kk]!.2.2 := (S0.mono B2 (Nat.le_refl _)).mono A.out.1 (Nat.le_refl _)
      clear hsym hsit B2 hb3 k3 k4 hcells S0
      generalize hrk : rs[kk]! = r at *
      have S2 := S1
      obtain ⟨soa, sc, hsv, _, _⟩ := S1
      rw [hsv] at k5 S2
      have R : Aside (rs[kk]! = r ∧ SitesAt wr (.slice soa r.2.2.length sc) r.2.2 ∧ r.2.2.length ≤ 500) := ⟨hrk, S2, hl5⟩
      clear hrk hmem hsv S2 hl5
      generalize hsl : r.2.2.length = sl at *
      have L : Aside (r.2.2.length = sl) := hsl
      clear hsl
      have heq := fun w => eql_sym r.1 s w
      have hgd := eqlSym.2
      cases hq : symEq r.1 s with
      | true =>
        rw [hq] at heq
        go_wp2_with fail
        have hB : Below wr.heap.size wr (wr.alloc (.cells (encSym r.1 ++ [Value.slice soa sl sc]).toArray 63)) := (Below.refl _ wr).alloc (Nat.le_refl _) _
        have hcl := clone_sites r.2.2 (.slice soa sl sc) _ (R.out.2.1.mono hB (Nat.le_refl _)) (by rw [L.out]; exact R.out.2.2)
        refine hcl.mono fun e w3 he => ?_
        obtain ⟨v', rfl, hv, hb⟩ := he
        go_wp2
        go_ret2
        refine ⟨Found.hit ?_ hv, ?_⟩
        · have := find_hit (p := rowFor s) hlt (by rw [R.out.1]; exact hq) A.out.2
          rw [R.out.1] at this
          exact this
        · exact (B3.out.1.trans (A.out.1.mono B3.out.1.size)).trans ((hB.trans (hb.mono (by simp))).mono (Nat.le_trans B3.out.1.size A.out.1.size))
      | false =>
        rw [hq] at heq
        go_wp2
        go_roundg (rs.length - (kk + 1))
        case measure => omega
        case rel =>
          refine ⟨kk + 1, by omega, by omega, by go_num, (show Aside _ from ⟨A.out.1.alloc A.out.1.size _, fun j hj => ?_⟩)⟩
          by_cases e : j = kk
          · subst e
            rw [R.out.1]; exact hq
          · exact A.out.2 j (by omega)
    · have hltz : ¬ (kk : Int) < (rs.length : Int) := by omega
      have : kk = rs.length := by omega
      subst this
      go_wp2
      go_ret2
      exact ⟨Found.miss (find_miss A.out.2), (B3.out.1.trans (A.out.1.mono B3.out.1.size))⟩
end Go.Proofs.YtfgefjpgmfjmjaaGreatDoor
