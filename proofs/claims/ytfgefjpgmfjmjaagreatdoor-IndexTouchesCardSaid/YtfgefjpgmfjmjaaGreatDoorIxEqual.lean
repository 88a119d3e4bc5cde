/- Equal sites, equal rows. -/
import Derived.Test.YtfgefjpgmfjmjaaGreatDoorIxLaw
namespace Go.Proofs.YtfgefjpgmfjmjaaGreatDoor
open Go Go.RowKit Go.Shelf Go.Lib

set_option maxHeartbeats 2000000 in
theorem equal_sites (l m : List Site) (u v : Value) (w : World) (h1 : SitesAt w u l) (h2 : SitesAt w v m) :
    Calls Tryz.prog 49 #[u, v] w fun e w' => e = .returned (.bool (Lib.allEq siteEq l m)) ∧ ∃ q, w' = w.drewN q := by
  obtain ⟨oa, ca, rfl, hl, hca⟩ := h1
  obtain ⟨ob, cb, rfl, hm, hcb⟩ := h2
  have hbig : (l.length : Int) ≤ 9223372036854775807 := by unfold maxLen at hl; omega
  by_cases hlm : l.length = m.length
  · have CA : Aside ((0 < l.length → ∃ b off, oa = some ⟨b, off, none⟩ ∧ ∀ j, j < l.length → ∀ i u, (encSite l[j]!)[i]? = some u → w.cell? ⟨b, off + j * 2 + i, none⟩ = some u) ∧
      (0 < m.length → ∃ b off, ob = some ⟨b, off, none⟩ ∧ ∀ j, j < m.length → ∀ i u, (encSite m[j]!)[i]? = some u → w.cell? ⟨b, off + j * 2 + i, none⟩ = some u)) := ⟨hca, hcb⟩
    have HL : Aside (l.length = m.length) := hlm
    rw [← hlm]
    clear hca hcb hlm hm
    go_enter Tryz.func49, Tryz.ntmps49
    go_wp2
    go_loopg [13] l.length (fun g s5 wr => ∃ kk q : Nat, kk ≤ l.length ∧ l.length - kk ≤ g ∧ s5 = .int .i64 kk ∧ wr = w.drewN q ∧ Aside (∀ j, j < kk → siteEq l[j]! m[j]! = true))
    case atStart => exact ⟨0, 0, Nat.zero_le _, by omega, rfl, rfl, fun j hj => absurd hj (Nat.not_lt_zero _)⟩
    case round =>
      obtain ⟨kk, q, hkk, hg, rfl, rfl, A⟩ := hrel
      by_cases hlt : kk < l.length
      · have hltz : (kk : Int) < (l.length : Int) := by omega
        obtain ⟨b, off, rfl, hcells⟩ := CA.out.1 (by omega)
        obtain ⟨b', off', rfl, hcells'⟩ := CA.out.2 (by rw [← HL.out]; omega)
        have s1 : SiteCells w b (off + kk * 2) l[kk]! := SiteCells.of (hcells kk hlt)
        have s2 : SiteCells w b' (off' + kk * 2) m[kk]! := SiteCells.of (hcells' kk (by rw [← HL.out]; omega))
        have p0 := fun n => ((s1.drewN q).drewN n).c0
        have p1 := fun n => ((s1.drewN q).drewN n).c1
        have r0 := fun n => ((s2.drewN q).drewN n).c0
        have r1 := fun n => ((s2.drewN q).drewN n).c1
        clear s1 s2 hcells hcells'
        generalize hx : l[kk]! = x at *
        generalize hy : m[kk]! = y at *
        have R : Aside (l[kk]! = x ∧ m[kk]! = y) := ⟨hx, hy⟩
        clear hx hy
        have heq := fun w => neq_site x y w
        have hgd := neqSite.2
        generalize hwq : w.drewN q = wq at *
        cases hq : siteEq x y with
        | true =>
          rw [hq] at heq
          go_wp2_with fail
          go_quiet (fail)
          go_wp2
          go_roundg (l.length - (kk + 1))
          case measure => omega
          case rel =>
            refine ⟨kk + 1, q + nq, by omega, by omega, by go_num, by rw [← hwq, World.drewN_drewN], (show Aside _ from fun j hj => ?_)⟩
            by_cases e : j = kk
            · subst e
              rw [R.out.1, R.out.2]; exact hq
            · exact A.out j (by omega)
        | false =>
          rw [hq] at heq
          go_wp2_with fail
          go_quiet (fail)
          go_wp2
          go_ret
          refine ⟨?_, q + nq, by rw [← hwq, World.drewN_drewN]⟩
          rw [Lib.allEq_elem siteEq l m kk hlt (by rw [← HL.out]; exact hlt) (by rw [R.out.1, R.out.2]; exact hq)]
          rfl
      · have hltz : ¬ (kk : Int) < (l.length : Int) := by omega
        have : kk = l.length := by omega
        subst this
        go_wp2
        go_ret
        refine ⟨?_, q, rfl⟩
        rw [Lib.allEq_all siteEq l m HL.out A.out]
        rfl
  · have hlm' : ¬ (l.length : Int) = (m.length : Int) := by omega
    have H : Aside (l.length ≠ m.length) := hlm
    clear hca hcb hlm
    go_enter Tryz.func49, Tryz.ntmps49
    go_wp2
    go_ret
    refine ⟨?_, 0, rfl⟩
    rw [Lib.allEq_len siteEq _ _ H.out]
    rfl

def rowEq (r r' : IRow) : Bool := symEq r.1 r'.1 && Lib.allEq siteEq r.2.2 r'.2.2

set_option maxHeartbeats 2000000 in
theorem sameRow (r r' : IRow) (w : World) (h : SitesAt w r.2.1 r.2.2) (h' : SitesAt w r'.2.1 r'.2.2) :
    Calls Tryz.prog 51 #[.agg (encIRow r).toArray, .agg (encIRow r').toArray] w fun e w' => e = .returned (.bool (rowEq r r')) ∧ Below w.heap.size w w' := by
  have hBw : Below w.heap.size w ((w.alloc (.cells (encIRow r).toArray 63)).alloc (.cells (encIRow r').toArray 63)) := ((Below.refl _ w).alloc (Nat.le_refl _) _).alloc (by simp) _
  have hS := h.mono hBw (Nat.le_refl _)
  have hS' := h'.mono hBw (Nat.le_refl _)
  obtain ⟨oa, ca, e1, _, _⟩ := h
  obtain ⟨ob, cb, e2, _, _⟩ := h'
  simp only [encIRow, e1, e2] at hBw hS hS' ⊢
  have HS : Aside (SitesAt ((w.alloc (.cells (encSym r.1 ++ [Value.slice oa r.2.2.length ca]).toArray 63)).alloc (.cells (encSym r'.1 ++ [Value.slice ob r'.2.2.length cb]).toArray 63)) (.slice oa r.2.2.length ca) r.2.2 ∧
    SitesAt ((w.alloc (.cells (encSym r.1 ++ [Value.slice oa r.2.2.length ca]).toArray 63)).alloc (.cells (encSym r'.1 ++ [Value.slice ob r'.2.2.length cb]).toArray 63)) (.slice ob r'.2.2.length cb) r'.2.2 ∧
    Below w.heap.size w ((w.alloc (.cells (encSym r.1 ++ [Value.slice oa r.2.2.length ca]).toArray 63)).alloc (.cells (encSym r'.1 ++ [Value.slice ob r'.2.2.length cb]).toArray 63))) := ⟨hS, hS', hBw⟩
  clear hS hS' hBw e1 e2
  have heq := fun w => eql_sym r.1 r'.1 w
  have hgd := eqlSym.2
  have HR : Aside (rowEq r r' = (symEq r.1 r'.1 && Lib.allEq siteEq r.2.2 r'.2.2)) := rfl
  generalize rowEq r r' = rr at *
  cases hq : symEq r.1 r'.1 with
  | false =>
    rw [hq] at heq HR
    simp only [encSym, List.cons_append, List.nil_append]
    go_enter Tryz.func51, Tryz.ntmps51
    go_wp2
    go_ret
    refine ⟨?_, HS.out.2.2⟩
    rw [HR.out]
    rfl
  | true =>
    rw [hq] at heq HR
    simp only [encSym, List.cons_append, List.nil_append]
    go_enter Tryz.func51, Tryz.ntmps51
    go_wp2_with fail
    refine (equal_sites r.2.2 r'.2.2 _ _ _ HS.out.1 HS.out.2.1).mono fun e w2 he => ?_
    obtain ⟨rfl, q, rfl⟩ := he
    go_wp2
    go_ret
    refine ⟨?_, below_drewN_q HS.out.2.2 q⟩
    rw [HR.out]
    rfl

set_option maxHeartbeats 4000000 in
theorem equalRows (rs ss : List IRow) (u v : Value) (w : World) (h1 : RowsAt w u rs) (h2 : RowsAt w v ss) (S1 : ∀ r ∈ rs, SitesAt w r.2.1 r.2.2) (S2 : ∀ r ∈ ss, SitesAt w r.2.1 r.2.2) :
    Calls Tryz.prog 50 #[u, v, .func (.func 51) #[] #[]] w fun e w' => e = .returned (.bool (Lib.allEq rowEq rs ss)) ∧ Below w.heap.size w w' := by
  have k1 := h1
  have k2 := h2
  obtain ⟨oa, ca, rfl, hl, _⟩ := k1
  obtain ⟨ob, cb, rfl, hm, _⟩ := k2
  have hbig : (rs.length : Int) ≤ 9223372036854775807 := by unfold maxLen at hl; omega
  by_cases hlm : rs.length = ss.length
  · have HL : Aside (rs.length = ss.length ∧ RowsAt w (.slice oa rs.length ca) rs ∧ RowsAt w (.slice ob ss.length cb) ss ∧ (∀ r ∈ rs, SitesAt w r.2.1 r.2.2) ∧ (∀ r ∈ ss, SitesAt w r.2.1 r.2.2)) := ⟨hlm, h1, h2, S1, S2⟩
    rw [← hlm]
    clear h1 h2 S1 S2 hlm hm
    go_enter Tryz.func50, Tryz.ntmps50
    go_wp2
    go_loopg [17] rs.length (fun g s5 wr => ∃ kk : Nat, kk ≤ rs.length ∧ rs.length - kk ≤ g ∧ s5 = .int .i64 kk ∧ Aside (Below w.heap.size w wr ∧ ∀ j, j < kk → rowEq rs[j]! ss[j]! = true))
    case atStart => exact ⟨0, Nat.zero_le _, by omega, rfl, Below.refl _ _, fun j hj => absurd hj (Nat.not_lt_zero _)⟩
    case round =>
      obtain ⟨kk, hkk, hg, rfl, A⟩ := hrel
      by_cases hlt : kk < rs.length
      · have hltz : (kk : Int) < (rs.length : Int) := by omega
        have hlt2 : kk < ss.length := by rw [← HL.out.1]; exact hlt
        have hB := A.out.1
        have S1' : ∀ r ∈ rs, SitesAt wr r.2.1 r.2.2 := fun r hr => (HL.out.2.2.2.1 r hr).mono hB (Nat.le_refl _)
        have S2' : ∀ r ∈ ss, SitesAt wr r.2.1 r.2.2 := fun r hr => (HL.out.2.2.2.2 r hr).mono hB (Nat.le_refl _)
        obtain ⟨b, off, soa, sc, rfl, hbl, j4, ev, j5, hl1, hS1⟩ := row_at (HL.out.2.1.mono hB (Nat.le_refl _)) S1' hlt
        obtain ⟨b', off', soa', sc', rfl, hbl', j4', ev', j5', hl2, hS2⟩ := row_at (HL.out.2.2.1.mono hB (Nat.le_refl _)) S2' hlt2
        have r0 := j4.c0
        have r1 := j4.c1
        have r2 := j4.c2
        have r3 := j4.c3
        have r4 := j4.c4
        have q0 := fun o => (j4'.alloc o).c0
        have q1 := fun o => (j4'.alloc o).c1
        have q2 := fun o => (j4'.alloc o).c2
        have q3 := fun o => (j4'.alloc o).c3
        have q4 := fun o => (j4'.alloc o).c4
        have q5 : ∀ o, (wr.alloc o).cell? ⟨b', off' + kk * 6 + 5, none⟩ = some (.slice soa' ss[kk]!.2.2.length sc') := fun o => Lib.cell?_alloc_some _ j5'
        have R : Aside (encIRow rs[kk]! = encSym rs[kk]!.1 ++ [Value.slice soa rs[kk]!.2.2.length sc] ∧ encIRow ss[kk]! = encSym ss[kk]!.1 ++ [Value.slice soa' ss[kk]!.2.2.length sc'] ∧ SitesAt wr rs[kk]!.2.1 rs[kk]!.2.2 ∧ SitesAt wr ss[kk]!.2.1 ss[kk]!.2.2) :=
          ⟨by rw [encIRow, ev], by rw [encIRow, ev'], by rw [ev]; exact hS1, by rw [ev']; exact hS2⟩
        clear j4 j4' j5' hS1 hS2 hl1 hl2 ev ev' S1' S2' hB hbl hbl'
        generalize hx : rs[kk]! = x at *
        generalize hy : ss[kk]! = y at *
        have RX : Aside (rs[kk]! = x ∧ ss[kk]! = y) := ⟨hx, hy⟩
        clear hx hy
        generalize hsl : x.2.2.length = sl at *
        generalize hsl' : y.2.2.length = sl' at *
        clear hsl hsl'
        go_wp2_with fail
        have hB2 : Below wr.heap.size wr ((wr.alloc (.cells (encSym x.1 ++ [Value.slice soa sl sc]).toArray 63)).alloc (.cells (encSym y.1 ++ [Value.slice soa' sl' sc']).toArray 63)) := ((Below.refl _ wr).alloc (Nat.le_refl _) _).alloc (by simp) _
        have hcall := sameRow x y _ (R.out.2.2.1.mono hB2 (Nat.le_refl _)) (R.out.2.2.2.mono hB2 (Nat.le_refl _))
        rw [R.out.1, R.out.2.1] at hcall
        refine hcall.mono fun e w3 he => ?_
        obtain ⟨rfl, hb⟩ := he
        have HB : Aside (Below w.heap.size w w3) := A.out.1.trans ((hB2.trans (hb.mono (by simp; omega))).mono A.out.1.size)
        clear hB2 hb hcall r0 r1 r2 r3 r4 q0 q1 q2 q3 q4 q5 j5
        cases hq : rowEq x y with
        | true =>
          go_wp2
          go_roundg (rs.length - (kk + 1))
          case measure => omega
          case rel =>
            refine ⟨kk + 1, by omega, by omega, by go_num, (show Aside _ from ⟨HB.out, fun j hj => ?_⟩)⟩
            by_cases e : j = kk
            · subst e
              rw [RX.out.1, RX.out.2]; exact hq
            · exact A.out.2 j (by omega)
        | false =>
          go_wp2
          go_ret
          refine ⟨?_, HB.out⟩
          rw [Lib.allEq_elem rowEq rs ss kk hlt hlt2 (by rw [RX.out.1, RX.out.2]; exact hq)]
          rfl
      · have hltz : ¬ (kk : Int) < (rs.length : Int) := by omega
        have : kk = rs.length := by omega
        subst this
        go_wp2
        go_ret
        refine ⟨?_, A.out.1⟩
        rw [Lib.allEq_all rowEq rs ss HL.out.1 A.out.2]
        rfl
  · have hlm' : ¬ (rs.length : Int) = (ss.length : Int) := by omega
    have H : Aside (rs.length ≠ ss.length) := hlm
    clear h1 h2 S1 S2 hlm
    go_enter Tryz.func50, Tryz.ntmps50
    go_wp2
    go_ret
    refine ⟨?_, Below.refl _ _⟩
    rw [Lib.allEq_len rowEq _ _ H.out]
    rfl

set_option maxHeartbeats 2000000 in
theorem ixSame (rs ss : List IRow) (u v : Value) (w : World) (h1 : RowsAt w u rs) (h2 : RowsAt w v ss) (S1 : ∀ r ∈ rs, SitesAt w r.2.1 r.2.2) (S2 : ∀ r ∈ ss, SitesAt w r.2.1 r.2.2) :
    Calls Tryz.prog 24 #[.agg #[u], .agg #[v]] w fun e w' => e = .returned (.bool (Lib.allEq rowEq rs ss)) ∧ Below w.heap.size w w' := by
  have hB : Below w.heap.size w ((w.alloc (.cells #[u] 46)).alloc (.cells #[v] 46)) := ((Below.refl _ w).alloc (Nat.le_refl _) _).alloc (by simp) _
  have H : Aside (Below w.heap.size w ((w.alloc (.cells #[u] 46)).alloc (.cells #[v] 46)) ∧ RowsAt ((w.alloc (.cells #[u] 46)).alloc (.cells #[v] 46)) u rs ∧ RowsAt ((w.alloc (.cells #[u] 46)).alloc (.cells #[v] 46)) v ss ∧
      (∀ r ∈ rs, SitesAt ((w.alloc (.cells #[u] 46)).alloc (.cells #[v] 46)) r.2.1 r.2.2) ∧ (∀ r ∈ ss, SitesAt ((w.alloc (.cells #[u] 46)).alloc (.cells #[v] 46)) r.2.1 r.2.2)) :=
    ⟨hB, h1.mono hB (Nat.le_refl _), h2.mono hB (Nat.le_refl _), fun r hr => (S1 r hr).mono hB (Nat.le_refl _), fun r hr => (S2 r hr).mono hB (Nat.le_refl _)⟩
  obtain ⟨oa, ca, rfl, _, _⟩ := h1
  obtain ⟨ob, cb, rfl, _, _⟩ := h2
  clear hB S1 S2
  go_enter Tryz.func24, Tryz.ntmps24
  go_wp2_with fail
  refine (equalRows rs ss _ _ _ H.out.2.1 H.out.2.2.1 H.out.2.2.2.1 H.out.2.2.2.2).mono fun e w2 he => ?_
  obtain ⟨rfl, hb⟩ := he
  go_wp2
  go_ret
  exact ⟨rfl, H.out.1.trans (hb.mono (by simp; omega))⟩
end Go.Proofs.YtfgefjpgmfjmjaaGreatDoor
