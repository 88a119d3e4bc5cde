/- The law IndexTouches gives true. -/
import Derived.Test.YtfgefjpgmfjmjaaGreatDoorIxRefTouch
import Derived.Deep.RegionHeld3
namespace Go.Proofs.YtfgefjpgmfjmjaaGreatDoor
open Go Go.RowKit Go.Shelf Go.Lib

/-- Small enough to be looked at. -/
def Small (rs : List IRow) : Prop := rs.length ≤ 100 ∧ ∀ r ∈ rs, r.2.2.length ≤ 500
/-- What the law's first loops look at. -/
structure Looks (w : World) (h G : Nat) (ua ub : Value) (ra rb : List IRow) (w0 : World) : Prop where
  two : Two w h ua ub ra rb
  below : Below w0.heap.size w0 w
  g0 : w.cell? ⟨G, 0, none⟩ = some ua
  g1 : w.cell? ⟨G, 1, none⟩ = some ub
theorem Looks.mono {w w' w0 : World} {h G : Nat} {ua ub : Value} {ra rb : List IRow} (L : Looks w h G ua ub ra rb w0) (hB : Below w.heap.size w w') : Looks w' h G ua ub ra rb w0 :=
  ⟨L.two.mono hB (Nat.le_refl _), L.below.trans (hB.mono L.below.size), (hB.cell (World.block_lt_of_cell? w _ L.g0)).trans L.g0, (hB.cell (World.block_lt_of_cell? w _ L.g1)).trans L.g1⟩
/-- What the law's last test stands on. -/
structure GT (w : World) (h : Nat) (ua ub : Value) (ra rb : List IRow) (w0 : World) (v1 v2 : Value) (ts : List Sym) : Prop where
  two : Two w h ua ub ra rb
  below : Below w0.heap.size w0 w
  one : SymsAt w v1 ts
  other : SymsAt w v2 ts
theorem GT.mono {w w' w0 : World} {h : Nat} {ua ub v1 v2 : Value} {ra rb : List IRow} {ts : List Sym} (L : GT w h ua ub ra rb w0 v1 v2 ts) (hB : Below w.heap.size w w') : GT w' h ua ub ra rb w0 v1 v2 ts :=
  ⟨L.two.mono hB (Nat.le_refl _), L.below.trans (hB.mono L.below.size), L.one.mono hB (Nat.le_refl _), L.other.mono hB (Nat.le_refl _)⟩
theorem GT.same {w w0 : World} {h : Nat} {ua ub v1 v2 : Value} {ra rb : List IRow} {ts : List Sym} (L : GT w h ua ub ra rb w0 v1 v2 ts) :
    Calls Tryz.prog 24 #[.agg #[ua], .agg #[ub]] w fun e w' => e = .returned (.bool (Lib.allEq rowEq ra rb)) ∧ w'.cell? ⟨h, 0, none⟩ = some ua ∧ w'.cell? ⟨h + 1, 0, none⟩ = some ub ∧ GT w' h ua ub ra rb w0 v1 v2 ts :=
  (ixSame ra rb ua ub w L.two.fa L.two.fb L.two.sa L.two.sb).mono fun _ _ he => ⟨he.1, (L.mono he.2).two.xa, (L.mono he.2).two.xb, L.mono he.2⟩
theorem GT.refSame {w w0 : World} {h : Nat} {ua ub v1 v2 : Value} {ra rb : List IRow} {ts : List Sym} (L : GT w h ua ub ra rb w0 v1 v2 ts) :
    Calls Tryz.prog 13 #[.agg #[ua], .agg #[ub]] w fun e w' => e = .returned (.bool (Lib.allEq rowEq ra rb)) ∧ w'.cell? ⟨h, 0, none⟩ = some ua ∧ w'.cell? ⟨h + 1, 0, none⟩ = some ub ∧ GT w' h ua ub ra rb w0 v1 v2 ts :=
  (refSameRows ra rb ua ub w L.two.fa L.two.fb L.two.sa L.two.sb).mono fun _ _ he => ⟨he.1, (L.mono he.2).two.xa, (L.mono he.2).two.xb, L.mono he.2⟩
def Known (ra rb : List IRow) : Nat → Prop
  | 0 => True
  | 1 => Small ra
  | _ => Small ra ∧ Small rb

set_option maxRecDepth 100000 in
set_option maxHeartbeats 16000000 in
theorem lawT (ra rb : List IRow) (ua ub : Value) (w : World) (ha : RowsAt w ua ra) (hb : RowsAt w ub rb) (sa : ∀ r ∈ ra, SitesAt w r.2.1 r.2.2) (sb : ∀ r ∈ rb, SitesAt w r.2.1 r.2.2) :
    Calls Tryz.prog 6 #[.agg #[ua], .agg #[ub]] w fun e w' => e = .returned (.bool true) ∧ Below w.heap.size w w' := by
  obtain ⟨hT, hB, hN⟩ := Two.start ha hb sa sb
  obtain ⟨oa, ca, rfl, hla, _⟩ := ha
  obtain ⟨ob, cb, rfl, hlb, _⟩ := hb
  have hbiga : (ra.length : Int) ≤ 9223372036854775807 := by unfold maxLen at hla; omega
  have hbigb : (rb.length : Int) ≤ 9223372036854775807 := by unfold maxLen at hlb; omega
  clear sa sb hla hlb
  go_enter Tryz.func6, Tryz.ntmps6
  go_wp2_with fail
  generalize (w.alloc (.cells #[Value.slice oa ra.length ca] 46)).alloc (.cells #[Value.slice ob rb.length cb] 46) = w3 at *
  refine (wakes_calls _).mono fun e w4 he => ?_
  obtain ⟨rfl, hb4⟩ := he
  have H : Aside (Two w4 w.heap.size (.slice oa ra.length ca) (.slice ob rb.length cb) ra rb ∧ Below w.heap.size w w4) := ⟨hT.mono hb4 (Nat.le_refl _), hB.trans (hb4.mono (by omega))⟩
  clear hT hB hN hb4
  have ka := H.out.1.xa
  have kb := H.out.1.xb
  have hnot : ∀ (x : Bool) (w : World), (Op.unary .not (.bool x)).run Tryz.prog w = .ok (.bool (!x)) w := fun _ _ => rfl
  go_wp2_with fail
  have hL : Looks (w4.alloc (.cells #[Value.slice oa ra.length ca, Value.slice ob rb.length cb] 46)) w.heap.size w4.heap.size (.slice oa ra.length ca) (.slice ob rb.length cb) ra rb w := by
    have hB : Below w4.heap.size w4 (w4.alloc (.cells #[Value.slice oa ra.length ca, Value.slice ob rb.length cb] 46)) := (Below.refl _ w4).alloc (Nat.le_refl _) _
    refine ⟨H.out.1.mono hB (Nat.le_refl _), H.out.2.trans (hB.mono H.out.2.size), ?_, ?_⟩
    · have := World.cell?_alloc_mark w4 #[Value.slice oa ra.length ca, Value.slice ob rb.length cb] 46 (0, 0) 0
      rw [this]; rfl
    · have := World.cell?_alloc_mark w4 #[Value.slice oa ra.length ca, Value.slice ob rb.length cb] 46 (0, 0) 1
      rw [this]; rfl
  have HL : Aside (Looks (w4.alloc (.cells #[Value.slice oa ra.length ca, Value.slice ob rb.length cb] 46)) w.heap.size w4.heap.size (.slice oa ra.length ca) (.slice ob rb.length cb) ra rb w) := hL
  clear hL ka kb H
  generalize w4.alloc (.cells #[Value.slice oa ra.length ca, Value.slice ob rb.length cb] 46) = w5 at *
  generalize w4.heap.size = G at *
  go_loopg [18] 2 (fun g s18 wr => ∃ i : Nat, i ≤ 2 ∧ 2 - i ≤ g ∧ s18 = .int .i64 i ∧ Aside (Looks wr w.heap.size G (.slice oa ra.length ca) (.slice ob rb.length cb) ra rb w ∧ Known ra rb i))
  case atStart => exact ⟨0, by omega, by omega, rfl, HL.out, trivial⟩
  case round =>
    clear HL
    obtain ⟨i, hi, hg, rfl, A⟩ := hrel
    by_cases hlt : i < 2
    · have hltz : (i : Int) < 2 := by omega
      have P : ∃ (R : List IRow) (oR : Option Addr) (cR : Nat), wr.cell? ⟨G, i, none⟩ = some (.slice oR R.length cR) ∧ RowsAt wr (.slice oR R.length cR) R ∧ (∀ r ∈ R, SitesAt wr r.2.1 r.2.2) ∧ (Small R → Known ra rb (i + 1)) ∧ (R.length : Int) ≤ 9223372036854775807 := by
        rcases (by omega : i = 0 ∨ i = 1) with rfl | rfl
        · exact ⟨ra, oa, ca, A.out.1.g0, A.out.1.two.fa, A.out.1.two.sa, fun h => h, hbiga⟩
        · exact ⟨rb, ob, cb, A.out.1.g1, A.out.1.two.fb, A.out.1.two.sb, fun h => ⟨A.out.2, h⟩, hbigb⟩
      obtain ⟨R, oR, cR, hcell, hR, hS, hkn, hbig⟩ := P
      have hB : Below wr.heap.size wr (wr.alloc (.cells #[Value.slice oR R.length cR] 46)) := (Below.refl _ wr).alloc (Nat.le_refl _) _
      have K : Aside (Looks (wr.alloc (.cells #[Value.slice oR R.length cR] 46)) w.heap.size G (.slice oa ra.length ca) (.slice ob rb.length cb) ra rb w ∧ RowsAt (wr.alloc (.cells #[Value.slice oR R.length cR] 46)) (.slice oR R.length cR) R ∧ (∀ r ∈ R, SitesAt (wr.alloc (.cells #[Value.slice oR R.length cR] 46)) r.2.1 r.2.2) ∧ (Small R → Known ra rb (i + 1))) :=
        ⟨A.out.1.mono hB, hR.mono hB (Nat.le_refl _), fun r hr => (hS r hr).mono hB (Nat.le_refl _), hkn⟩
      clear hR hS hkn hB
      by_cases h100 : (100 : Int) < (R.length : Int)
      · go_wp2
        go_ret
        exact ⟨rfl, K.out.1.below⟩
      · go_wp2_with fail
        generalize wr.alloc (.cells #[Value.slice oR R.length cR] 46) = w6 at *
        clear A hcell
        go_loopg [29] R.length (fun g s29 wq => ∃ kk : Nat, kk ≤ R.length ∧ R.length - kk ≤ g ∧ s29 = .int .i64 kk ∧ Aside (Below w6.heap.size w6 wq ∧ ∀ j, j < kk → R[j]!.2.2.length ≤ 500))
        case atStart => exact ⟨0, by omega, by omega, rfl, Below.refl _ _, fun j hj => absurd hj (Nat.not_lt_zero _)⟩
        case round =>
          obtain ⟨kk, hkk, hg2, rfl, A⟩ := hrel
          by_cases hlt2 : kk < R.length
          · have hltz2 : (kk : Int) < (R.length : Int) := by omega
            have hB := A.out.1
            obtain ⟨b, off, soa, sc, rfl, hbl, j4, _, j5, hl, _⟩ := row_at (K.out.2.1.mono hB (Nat.le_refl _)) (fun r hr => (K.out.2.2.1 r hr).mono hB (Nat.le_refl _)) hlt2
            have r0 := j4.c0
            have r1 := j4.c1
            have r2 := j4.c2
            have r3 := j4.c3
            have r4 := j4.c4
            have hl' : (R[kk]!.2.2.length : Int) ≤ 9223372036854775807 := by unfold maxLen at hl; omega
            clear j4 hl hB hbl
            generalize hrk : R[kk]! = r at *
            generalize hsl : r.2.2.length = sl at *
            have RR : Aside (R[kk]! = r ∧ r.2.2.length = sl) := ⟨hrk, hsl⟩
            clear hrk hsl
            have hB7 : Aside (Below wr.heap.size wr (wr.alloc (.cells (encSym r.1 ++ [Value.slice soa sl sc]).toArray 63))) := (Below.refl _ wr).alloc (Nat.le_refl _) _
            by_cases h500 : (500 : Int) < (sl : Int)
            · go_wp2
              go_ret
              exact ⟨rfl, (K.out.1.below.trans (A.out.1.mono K.out.1.below.size)).trans (hB7.out.mono (Nat.le_trans K.out.1.below.size A.out.1.size))⟩
            · go_wp2
              go_roundg (R.length - (kk + 1))
              case measure => omega
              case rel =>
                refine ⟨kk + 1, by omega, by omega, by go_num, (show Aside _ from ⟨A.out.1.trans (hB7.out.mono A.out.1.size), fun j hj => ?_⟩)⟩
                by_cases e : j = kk
                · subst e
                  rw [RR.out.1, RR.out.2]; omega
                · exact A.out.2 j (by omega)
          · have hltz2 : ¬ (kk : Int) < (R.length : Int) := by omega
            have : kk = R.length := by omega
            subst this
            have hsm : Small R := ⟨by omega, fun r hr => by
              obtain ⟨j, hj, rfl⟩ := List.getElem_of_mem hr
              have := A.out.2 j hj
              rw [getElem!_pos R j hj] at this
              exact this⟩
            have HK : Aside (Known ra rb (i + 1)) := K.out.2.2.2 hsm
            clear hsm
            go_wp2
            go_roundg (2 - (i + 1))
            case measure => omega
            case rel => exact ⟨i + 1, by omega, by omega, by go_num, K.out.1.mono A.out.1, HK.out⟩
    · have hltz : ¬ (i : Int) < 2 := by omega
      have : i = 2 := by omega
      subst this
      have hk : Small ra ∧ Small rb := A.out.2
      have G1 : Aside (Two wr w.heap.size (.slice oa ra.length ca) (.slice ob rb.length cb) ra rb ∧ Below w.heap.size w wr ∧ Small ra ∧ Small rb) := ⟨A.out.1.two, A.out.1.below, hk⟩
      clear A hk
      have ka := G1.out.1.xa
      have kb := G1.out.1.xb
      go_wp2_with fail
      clear ka kb
      refine (ixTouches ra rb _ _ wr G1.out.1.fa G1.out.1.fb (fun r hr => ⟨G1.out.1.sa r hr, G1.out.2.2.1.2 r hr⟩) (fun r hr => ⟨G1.out.1.sb r hr, G1.out.2.2.2.2 r hr⟩) G1.out.2.2.1.1 G1.out.2.2.2.1).mono fun e w6 he => ?_
      obtain ⟨v1, rfl, hv1, hb6⟩ := he
      have G2 : Aside (Two w6 w.heap.size (.slice oa ra.length ca) (.slice ob rb.length cb) ra rb ∧ Below w.heap.size w w6 ∧ SymsAt w6 v1 (touched ra rb (symsOf ra ++ symsOf rb)).2) := ⟨G1.out.1.mono hb6 (Nat.le_refl _), G1.out.2.1.trans (hb6.mono G1.out.2.1.size), hv1⟩
      have GS : Aside (Small ra ∧ Small rb) := G1.out.2.2
      clear hv1 hb6 G1
      have ka := G2.out.1.xa
      have kb := G2.out.1.xb
      go_wp2_with fail
      clear ka kb
      refine (refTouches ra rb _ _ w6 G2.out.1.fa G2.out.1.fb G2.out.1.sa G2.out.1.sb GS.out.1.1 GS.out.2.1).mono fun e w7 he => ?_
      obtain ⟨v2, rfl, hv2, hb7⟩ := he
      have G3 : Aside (Two w7 w.heap.size (.slice oa ra.length ca) (.slice ob rb.length cb) ra rb ∧ Below w.heap.size w w7 ∧ SymsAt w7 v1 (touched ra rb (symsOf ra ++ symsOf rb)).2 ∧ SymsAt w7 v2 (touched ra rb (symsOf ra ++ symsOf rb)).2) := ⟨G2.out.1.mono hb7 (Nat.le_refl _), G2.out.2.1.trans (hb7.mono G2.out.2.1.size), G2.out.2.2.mono hb7 (Nat.le_refl _), hv2⟩
      clear hv2 hb7 G2
      generalize (touched ra rb (symsOf ra ++ symsOf rb)).2 = ts at *
      obtain ⟨o1, c1, hv1, hml, _⟩ := G3.out.2.2.1
      obtain ⟨o2, c2, hv2, _, _⟩ := G3.out.2.2.2
      subst hv1; subst hv2
      have hbig : (ts.length : Int) ≤ 9223372036854775807 := by unfold maxLen at hml; omega
      clear hml
      have hg7 : GT w7 w.heap.size (.slice oa ra.length ca) (.slice ob rb.length cb) ra rb w (.slice o1 ts.length c1) (.slice o2 ts.length c2) ts := ⟨G3.out.1, G3.out.2.1, G3.out.2.2.1, G3.out.2.2.2⟩
      clear G3
      go_wp2_with fail
      have hg8 : GT w7.drew w.heap.size (.slice oa ra.length ca) (.slice ob rb.length cb) ra rb w (.slice o1 ts.length c1) (.slice o2 ts.length c2) ts := hg7.mono (Below.refl _ _).drew
      have xa8 := hg8.two.xa
      have xb8 := hg8.two.xb
      clear hg7
      generalize Lib.allEq rowEq ra rb = same at *
      have hne : ∀ w, Sem.run Tryz.prog (binOp .neq 4 (.bool same) (.bool same)) w = .ok (.bool false) w := fun w => by cases same <;> rfl
      go_region_held3 (fun w' => w'.cell? ⟨w.heap.size, 0, none⟩ = some (.slice oa ra.length ca) ∧ w'.cell? ⟨w.heap.size + 1, 0, none⟩ = some (.slice ob rb.length cb) ∧ GT w' w.heap.size (.slice oa ra.length ca) (.slice ob rb.length cb) ra rb w (.slice o1 ts.length c1) (.slice o2 ts.length c2) ts)
        (exact ⟨by assumption, by assumption, by assumption⟩)
        (first
          | (go_at_call 24; refine (GT.same (by assumption)).mono ?_; rintro e w' ⟨rfl, g1, g2, g3⟩)
          | (go_at_call 13; refine (GT.refSame (by assumption)).mono ?_; rintro e w' ⟨rfl, g1, g2, g3⟩))
      go_wp2_with fail
      obtain ⟨t1, t2, hB9, h1, h2⟩ : ∃ (t1 t2 : SymsAt w' (.slice o1 ts.length c1) ts ∧ SymsAt w' (.slice o2 ts.length c2) ts), Below w.heap.size w w' ∧ SymsAt w' (.slice o1 ts.length c1) ts ∧ SymsAt w' (.slice o2 ts.length c2) ts := ⟨⟨g3.one, g3.other⟩, ⟨g3.one, g3.other⟩, g3.below, g3.one, g3.other⟩
      obtain ⟨_, _, e1, _, h1⟩ := h1
      cases e1
      obtain ⟨_, _, e2, _, h2⟩ := h2
      cases e2
      have HF : Aside (Below w.heap.size w w' ∧ (0 < ts.length → ∃ b off, o1 = some ⟨b, off, none⟩ ∧ ∀ j, j < ts.length → SymCells w' b (off + j * 5) ts[j]!) ∧ (0 < ts.length → ∃ b off, o2 = some ⟨b, off, none⟩ ∧ ∀ j, j < ts.length → SymCells w' b (off + j * 5) ts[j]!)) := ⟨hB9, h1, h2⟩
      clear g1 g2 g3 t1 t2 hB9 h1 h2 hg8 xa8 xb8 hne
      go_loopg [61] ts.length (fun g s61 wr => ∃ kk q : Nat, kk ≤ ts.length ∧ ts.length - kk ≤ g ∧ s61 = .int .i64 kk ∧ wr = w'.drewN q)
      case atStart => exact ⟨0, 0, by omega, by omega, rfl, rfl⟩
      case round =>
        obtain ⟨kk, q, hkk, hg3, rfl, rfl⟩ := hrel
        by_cases hlt2 : kk < ts.length
        · have hltz2 : (kk : Int) < (ts.length : Int) := by omega
          obtain ⟨b, off, rfl, hc1⟩ := HF.out.2.1 (by omega)
          obtain ⟨b', off', rfl, hc2⟩ := HF.out.2.2 (by omega)
          have a1 := hc1 kk hlt2
          have a2 := hc2 kk hlt2
          have r0 := fun m => ((a1.drewN q).drewN m).c0
          have r1 := fun m => ((a1.drewN q).drewN m).c1
          have r2 := fun m => ((a1.drewN q).drewN m).c2
          have r3 := fun m => ((a1.drewN q).drewN m).c3
          have r4 := fun m => ((a1.drewN q).drewN m).c4
          have q0 := fun m => ((a2.drewN q).drewN m).c0
          have q1 := fun m => ((a2.drewN q).drewN m).c1
          have q2 := fun m => ((a2.drewN q).drewN m).c2
          have q3 := fun m => ((a2.drewN q).drewN m).c3
          have q4 := fun m => ((a2.drewN q).drewN m).c4
          clear hc1 hc2 a1 a2
          generalize ts[kk]! = y at *
          have heq := fun w => neq_sym y y w
          rw [(symEq_iff y y).2 rfl] at heq
          have hgd := neqSym.2
          generalize hwq : w'.drewN q = wq at *
          go_wp2_with fail
          go_quiet (fail)
          go_wp2
          go_roundg (ts.length - (kk + 1))
          case measure => omega
          case rel => exact ⟨kk + 1, q + nq, by omega, by omega, by go_num, by rw [← hwq, World.drewN_drewN]⟩
        · have hltz2 : ¬ (kk : Int) < (ts.length : Int) := by omega
          have : kk = ts.length := by omega
          subst this
          go_wp2
          go_ret
          exact ⟨rfl, below_drewN_q HF.out.1 _⟩
end Go.Proofs.YtfgefjpgmfjmjaaGreatDoor
