/- What the document's SameSites does. -/
import Derived.Test.YtfgefjpgmfjmjaaGreatDoorIxFind2
namespace Go.Proofs.YtfgefjpgmfjmjaaGreatDoor
open Go Go.RowKit Go.Shelf Go.Lib

/-- The cells of a site. -/
structure SiteCells (w : World) (b o : Nat) (s : Site) : Prop where
  c0 : w.cell? ⟨b, o, none⟩ = some (.string s.1)
  c1 : w.cell? ⟨b, o + 1, none⟩ = some (.int .i64 s.2)
theorem SiteCells.of {w : World} {b o : Nat} {s : Site} (h : ∀ i u, (encSite s)[i]? = some u → w.cell? ⟨b, o + i, none⟩ = some u) : SiteCells w b o s := ⟨h 0 _ rfl, h 1 _ rfl⟩
theorem SiteCells.mono {B : Nat} {w w' : World} {b o : Nat} {s : Site} (h : SiteCells w b o s) (hB : Below B w w') (hb : b < B) : SiteCells w' b o s := ⟨(hB.cell hb).trans h.c0, (hB.cell hb).trans h.c1⟩
theorem SiteCells.drewN {w : World} {b o : Nat} {s : Site} (h : SiteCells w b o s) (q : Nat) : SiteCells (w.drewN q) b o s := ⟨by rw [World.cell?_drewN]; exact h.c0, by rw [World.cell?_drewN]; exact h.c1⟩
theorem SiteCells.alloc {w : World} {b o : Nat} {s : Site} (h : SiteCells w b o s) (x : Obj) : SiteCells (w.alloc x) b o s := ⟨Lib.cell?_alloc_some _ h.c0, Lib.cell?_alloc_some _ h.c1⟩
theorem SiteCells.block {w : World} {b o : Nat} {s : Site} (h : SiteCells w b o s) : b < w.heap.size := World.block_lt_of_cell? w _ h.c0
theorem SiteCells.new (w : World) (s : Site) (t : TypeId) : SiteCells (w.alloc (.cells (encSite s).toArray t)) w.heap.size 0 s :=
  SiteCells.of fun i u hu => by
    have := World.cell?_alloc_mark w (encSite s).toArray t (0, 0) i
    rw [Nat.zero_add, this]; simpa using hu
theorem eql_site (x y : Site) (w : World) : Sem.run Tryz.prog (binOp .eql 60 (.agg #[.string x.1, .int .i64 x.2]) (.agg #[.string y.1, .int .i64 y.2])) w = .ok (.bool (siteEq x y)) w := eqlSite.1 x y w
theorem neq_site (x y : Site) (w : World) : Sem.run Tryz.prog (binOp .neq 60 (.agg #[.string x.1, .int .i64 x.2]) (.agg #[.string y.1, .int .i64 y.2])) w = .ok (.bool (!siteEq x y)) w := neqSite.1 x y w

set_option maxHeartbeats 2000000 in
theorem refSame (l m : List Site) (u v : Value) (w : World) (h1 : SitesAt w u l) (h2 : SitesAt w v m) :
    Calls Tryz.prog 20 #[u, v] w fun e w' => e = .returned (.bool (Lib.allEq siteEq l m)) ∧ ∃ q, w' = w.drewN q := by
  obtain ⟨oa, ca, rfl, hl, hca⟩ := h1
  obtain ⟨ob, cb, rfl, hm, hcb⟩ := h2
  have hbig : (l.length : Int) ≤ 9223372036854775807 := by unfold maxLen at hl; omega
  by_cases hlm : l.length = m.length
  · have CA : Aside ((0 < l.length → ∃ b off, oa = some ⟨b, off, none⟩ ∧ ∀ j, j < l.length → ∀ i u, (encSite l[j]!)[i]? = some u → w.cell? ⟨b, off + j * 2 + i, none⟩ = some u) ∧
      (0 < m.length → ∃ b off, ob = some ⟨b, off, none⟩ ∧ ∀ j, j < m.length → ∀ i u, (encSite m[j]!)[i]? = some u → w.cell? ⟨b, off + j * 2 + i, none⟩ = some u)) := ⟨hca, hcb⟩
    have HL : Aside (l.length = m.length) := hlm
    rw [← hlm]
    clear hca hcb hlm hm
    go_enter Tryz.func20, Tryz.ntmps20
    go_wp2
    go_loopg [5] l.length (fun g s5 wr => ∃ kk q : Nat, kk ≤ l.length ∧ l.length - kk ≤ g ∧ s5 = .int .i64 kk ∧ wr = w.drewN q ∧ Aside (∀ j, j < kk → siteEq l[j]! m[j]! = true))
    case atStart => exact ⟨0, 0, Nat.zero_le _, by omega, rfl, rfl, fun j hj => absurd hj (Nat.not_lt_zero _)⟩
    case round =>
      obtain ⟨kk, q, hkk, hg, rfl, rfl, A⟩ := hrel
      by_cases hlt : kk < l.length
      · have hltz : (kk : Int) < (l.length : Int) := by omega
        obtain ⟨b, off, rfl, hcells⟩ := CA.out.1 (by omega)
        obtain ⟨b', off', rfl, hcells'⟩ := CA.out.2 (by rw [← HL.out]; omega)
        have s1 : SiteCells w b (off + kk * 2) l[kk]! := SiteCells.of (hcells kk hlt)
        have s2 : SiteCells w b' (off' + kk * 2) m[kk]! := SiteCells.of (hcells' kk (by rw [← HL.out]; omega))
        have p0 := fun n => ((s1.drewN q).drewN n).c0
        have p1 := fun n => ((s1.drewN q).drewN n).c1
        have r0 := fun n => ((s2.drewN q).drewN n).c0
        have r1 := fun n => ((s2.drewN q).drewN n).c1
        clear s1 s2 hcells hcells'
        generalize hx : l[kk]! = x at *
        generalize hy : m[kk]! = y at *
        have R : Aside (l[kk]! = x ∧ m[kk]! = y) := ⟨hx, hy⟩
        clear hx hy
        have heq := fun w => neq_site x y w
        have hgd := neqSite.2
        generalize hwq : w.drewN q = wq at *
        cases hq : siteEq x y with
        | true =>
          rw [hq] at heq
          go_wp2_with fail
          go_quiet (fail)
          go_wp2
          go_roundg (l.length - (kk + 1))
          case measure => omega
          case rel =>
            refine ⟨kk + 1, q + nq, by omega, by omega, by go_num, by rw [← hwq, World.drewN_drewN], (show Aside _ from fun j hj => ?_)⟩
            by_cases e : j = kk
            · subst e
              rw [R.out.1, R.out.2]; exact hq
            · exact A.out j (by omega)
        | false =>
          rw [hq] at heq
          go_wp2_with fail
          go_quiet (fail)
          go_wp2
          go_ret
          refine ⟨?_, q + nq, by rw [← hwq, World.drewN_drewN]⟩
          rw [Lib.allEq_elem siteEq l m kk hlt (by rw [← HL.out]; exact hlt) (by rw [R.out.1, R.out.2]; exact hq)]
          rfl
      · have hltz : ¬ (kk : Int) < (l.length : Int) := by omega
        have : kk = l.length := by omega
        subst this
        go_wp2
        go_ret
        refine ⟨?_, q, rfl⟩
        rw [Lib.allEq_all siteEq l m HL.out A.out]
        rfl
  · have hlm' : ¬ (l.length : Int) = (m.length : Int) := by omega
    have H : Aside (l.length ≠ m.length) := hlm
    clear hca hcb hlm
    go_enter Tryz.func20, Tryz.ntmps20
    go_wp2
    go_ret
    refine ⟨?_, 0, rfl⟩
    rw [Lib.allEq_len siteEq _ _ H.out]
    rfl
end Go.Proofs.YtfgefjpgmfjmjaaGreatDoor
