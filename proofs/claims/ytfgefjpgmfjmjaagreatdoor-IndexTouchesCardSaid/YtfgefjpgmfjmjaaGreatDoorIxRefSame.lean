/- What the document's Same does. -/
import Derived.Test.YtfgefjpgmfjmjaaGreatDoorIxEqual
namespace Go.Proofs.YtfgefjpgmfjmjaaGreatDoor
open Go Go.RowKit Go.Shelf Go.Lib

theorem neq_sym (x y : Sym) (w : World) : Sem.run Tryz.prog (binOp .neq 50 (.agg #[.string x.1, .string x.2.1, .string x.2.2.1, .int .i64 x.2.2.2.1, .string x.2.2.2.2]) (.agg #[.string y.1, .string y.2.1, .string y.2.2.1, .int .i64 y.2.2.2.1, .string y.2.2.2.2])) w = .ok (.bool (!symEq x y)) w := neqSym.1 x y w

set_option maxHeartbeats 8000000 in
theorem refSameRows (rs ss : List IRow) (u v : Value) (w : World) (h1 : RowsAt w u rs) (h2 : RowsAt w v ss) (S1 : ∀ r ∈ rs, SitesAt w r.2.1 r.2.2) (S2 : ∀ r ∈ ss, SitesAt w r.2.1 r.2.2) :
    Calls Tryz.prog 13 #[.agg #[u], .agg #[v]] w fun e w' => e = .returned (.bool (Lib.allEq rowEq rs ss)) ∧ Below w.heap.size w w' := by
  have hB : Below w.heap.size w ((w.alloc (.cells #[u] 46)).alloc (.cells #[v] 46)) := ((Below.refl _ w).alloc (Nat.le_refl _) _).alloc (by simp) _
  have x2 : ((w.alloc (.cells #[u] 46)).alloc (.cells #[v] 46)).cell? ⟨w.heap.size, 0, none⟩ = some u := Lib.cell?_alloc_some _ (by simp)
  have y2 : ((w.alloc (.cells #[u] 46)).alloc (.cells #[v] 46)).cell? ⟨w.heap.size + 1, 0, none⟩ = some v := by
    have := World.cell?_alloc_mark (w.alloc (.cells #[u] 46)) #[v] 46 (0, 0) 0
    have e : (w.alloc (.cells #[u] 46)).heap.size = w.heap.size + 1 := by simp
    rw [e] at this
    rw [this]; rfl
  have k1 := h1.mono hB (Nat.le_refl _)
  have k2 := h2.mono hB (Nat.le_refl _)
  have T1 : ∀ r ∈ rs, SitesAt ((w.alloc (.cells #[u] 46)).alloc (.cells #[v] 46)) r.2.1 r.2.2 := fun r hr => (S1 r hr).mono hB (Nat.le_refl _)
  have T2 : ∀ r ∈ ss, SitesAt ((w.alloc (.cells #[u] 46)).alloc (.cells #[v] 46)) r.2.1 r.2.2 := fun r hr => (S2 r hr).mono hB (Nat.le_refl _)
  obtain ⟨oa, ca, rfl, hl, _⟩ := h1
  obtain ⟨ob, cb, rfl, hm, _⟩ := h2
  have hbig : (rs.length : Int) ≤ 9223372036854775807 := by unfold maxLen at hl; omega
  clear S1 S2
  by_cases hlm : rs.length = ss.length
  · have HL : Aside (rs.length = ss.length) := hlm
    rw [← hlm] at y2 k2 ⊢
    rw [← hlm] at hB x2 k1 T1 T2
    clear hlm hm
    go_enter Tryz.func13, Tryz.ntmps13
    go_wp2
    generalize (w.alloc (.cells #[Value.slice oa rs.length ca] 46)).alloc (.cells #[Value.slice ob rs.length cb] 46) = w2 at *
    have H : Aside (Below w.heap.size w w2 ∧ RowsAt w2 (.slice oa rs.length ca) rs ∧ RowsAt w2 (.slice ob rs.length cb) ss ∧ (∀ r ∈ rs, SitesAt w2 r.2.1 r.2.2) ∧ (∀ r ∈ ss, SitesAt w2 r.2.1 r.2.2)) := ⟨hB, k1, k2, T1, T2⟩
    clear hB k1 k2 T1 T2
    go_loopg [5] rs.length (fun g s5 wr => ∃ kk q : Nat, kk ≤ rs.length ∧ rs.length - kk ≤ g ∧ s5 = .int .i64 kk ∧ wr = w2.drewN q ∧ Aside (∀ j, j < kk → rowEq rs[j]! ss[j]! = true))
    case atStart => exact ⟨0, 0, Nat.zero_le _, by omega, rfl, rfl, fun j hj => absurd hj (Nat.not_lt_zero _)⟩
    case round =>
      obtain ⟨kk, q, hkk, hg, rfl, rfl, A⟩ := hrel
      have xq : (w2.drewN q).cell? ⟨w.heap.size, 0, none⟩ = some (.slice oa rs.length ca) := by rw [World.cell?_drewN]; exact x2
      have xm : ∀ m, ((w2.drewN q).drewN m).cell? ⟨w.heap.size, 0, none⟩ = some (.slice oa rs.length ca) := fun m => by rw [World.cell?_drewN]; exact xq
      have ym : ∀ m, ((w2.drewN q).drewN m).cell? ⟨w.heap.size + 1, 0, none⟩ = some (.slice ob rs.length cb) := fun m => by rw [World.cell?_drewN, World.cell?_drewN]; exact y2
      by_cases hlt : kk < rs.length
      · have hltz : (kk : Int) < (rs.length : Int) := by omega
        have hlt2 : kk < ss.length := by rw [← HL.out]; exact hlt
        obtain ⟨b, off, soa, sc, rfl, hbl, j4, ev, j5, hl1, hS1⟩ := row_at H.out.2.1 H.out.2.2.2.1 hlt
        have R2 : RowsAt w2 (.slice ob ss.length cb) ss := by rw [← HL.out]; exact H.out.2.2.1
        obtain ⟨b', off', soa', sc', rfl, hbl', j4', ev', j5', hl2, hS2⟩ := row_at R2 H.out.2.2.2.2 hlt2
        have r0 := fun m => ((j4.drewN q).drewN m).c0
        have r1 := fun m => ((j4.drewN q).drewN m).c1
        have r2 := fun m => ((j4.drewN q).drewN m).c2
        have r3 := fun m => ((j4.drewN q).drewN m).c3
        have r4 := fun m => ((j4.drewN q).drewN m).c4
        have r5 : ∀ m, ((w2.drewN q).drewN m).cell? ⟨b, off + kk * 6 + 5, none⟩ = some (.slice soa rs[kk]!.2.2.length sc) := fun m => by rw [World.cell?_drewN, World.cell?_drewN]; exact j5
        have q0 := fun m => ((j4'.drewN q).drewN m).c0
        have q1 := fun m => ((j4'.drewN q).drewN m).c1
        have q2 := fun m => ((j4'.drewN q).drewN m).c2
        have q3 := fun m => ((j4'.drewN q).drewN m).c3
        have q4 := fun m => ((j4'.drewN q).drewN m).c4
        have q5 : ∀ m, ((w2.drewN q).drewN m).cell? ⟨b', off' + kk * 6 + 5, none⟩ = some (.slice soa' ss[kk]!.2.2.length sc') := fun m => by rw [World.cell?_drewN, World.cell?_drewN]; exact j5'
        have hcall : ∀ n, Calls Tryz.prog 20 #[.slice soa rs[kk]!.2.2.length sc, .slice soa' ss[kk]!.2.2.length sc'] ((w2.drewN q).drewN n) fun e w'' => e = .returned (.bool (Lib.allEq siteEq rs[kk]!.2.2 ss[kk]!.2.2)) ∧ ∃ m, w'' = (w2.drewN q).drewN m := fun n => by
          have hd : Below w2.heap.size w2 ((w2.drewN q).drewN n) := below_drewN_q (below_drewN_q (Below.refl _ _) q) n
          refine (refSame _ _ _ _ _ (hS1.mono hd (Nat.le_refl _)) (hS2.mono hd (Nat.le_refl _))).mono fun e w'' he => ?_
          obtain ⟨h1, m, h2⟩ := he
          exact ⟨h1, n + m, by rw [h2, World.drewN_drewN]⟩
        have HR : Aside (rowEq rs[kk]! ss[kk]! = (symEq rs[kk]!.1 ss[kk]!.1 && Lib.allEq siteEq rs[kk]!.2.2 ss[kk]!.2.2)) := rfl
        clear j4 j4' j5 j5' hS1 hS2 hl1 hl2 ev ev' R2 hbl hbl' x2 y2
        generalize Lib.allEq siteEq rs[kk]!.2.2 ss[kk]!.2.2 = bb at *
        generalize hrr : rowEq rs[kk]! ss[kk]! = rr at HR
        have RX : Aside (rowEq rs[kk]! ss[kk]! = rr) := hrr
        clear hrr
        generalize rs[kk]! = x at r0 r1 r2 r3 r4 r5 q0 q1 q2 q3 q4 q5 hcall HR
        generalize ss[kk]! = y at r0 r1 r2 r3 r4 r5 q0 q1 q2 q3 q4 q5 hcall HR
        generalize x.2.2.length = sl at *
        generalize y.2.2.length = sl' at *
        have heq := fun w => neq_sym x.1 y.1 w
        have hgd := neqSym.2
        have hnot : ∀ (x : Bool) (w : World), (Op.unary .not (.bool x)).run Tryz.prog w = .ok (.bool (!x)) w := fun _ _ => rfl
        generalize hwq : w2.drewN q = wq at *
        cases hq : symEq x.1 y.1 with
        | true =>
          rw [hq] at heq HR
          have HC : Aside (∀ n, Calls Tryz.prog 20 #[.slice soa sl sc, .slice soa' sl' sc'] (wq.drewN n) fun e w'' => e = .returned (.bool bb) ∧ ∃ m, w'' = wq.drewN m) := hcall
          clear hcall
          cases bb with
          | true =>
            go_wp2_with fail
            go_quiet ((go_at_call 20; exact HC.out _))
            go_wp2
            go_roundg (rs.length - (kk + 1))
            case measure => omega
            case rel =>
              refine ⟨kk + 1, q + nq, by omega, by omega, by go_num, by rw [← hwq, World.drewN_drewN], (show Aside _ from fun j hj => ?_)⟩
              by_cases e : j = kk
              · subst e
                rw [RX.out, HR.out]; rfl
              · exact A.out j (by omega)
          | false =>
            go_wp2_with fail
            go_quiet ((go_at_call 20; exact HC.out _))
            go_wp2
            go_ret
            refine ⟨?_, below_drewN_q (by rw [← hwq]; exact below_drewN_q H.out.1 q) _⟩
            rw [Lib.allEq_elem rowEq rs ss kk hlt hlt2 (by rw [RX.out, HR.out]; rfl)]
            rfl
        | false =>
          rw [hq] at heq HR
          clear hcall
          go_wp2_with fail
          go_quiet (fail)
          go_wp2
          go_ret
          refine ⟨?_, below_drewN_q (by rw [← hwq]; exact below_drewN_q H.out.1 q) _⟩
          rw [Lib.allEq_elem rowEq rs ss kk hlt hlt2 (by rw [RX.out, HR.out]; rfl)]
          rfl
      · have hltz : ¬ (kk : Int) < (rs.length : Int) := by omega
        have : kk = rs.length := by omega
        subst this
        go_wp2
        go_ret
        refine ⟨?_, below_drewN_q H.out.1 q⟩
        rw [Lib.allEq_all rowEq rs ss HL.out A.out]
        rfl
  · have hlm' : ¬ (rs.length : Int) = (ss.length : Int) := by omega
    have HB : Aside (rs.length ≠ ss.length ∧ Below w.heap.size w ((w.alloc (.cells #[Value.slice oa rs.length ca] 46)).alloc (.cells #[Value.slice ob ss.length cb] 46))) := ⟨hlm, hB⟩
    clear hlm hB k1 k2 T1 T2 x2 y2
    go_enter Tryz.func13, Tryz.ntmps13
    go_wp2
    go_ret
    refine ⟨?_, HB.out.2⟩
    rw [Lib.allEq_len rowEq _ _ HB.out.1]
    rfl
end Go.Proofs.YtfgefjpgmfjmjaaGreatDoor
