/- What the document's Touches does. -/
import Derived.Test.YtfgefjpgmfjmjaaGreatDoorIxTouch
import Derived.Test.YtfgefjpgmfjmjaaGreatDoorIxRefSame
namespace Go.Proofs.YtfgefjpgmfjmjaaGreatDoor
open Go Go.RowKit Go.Shelf Go.Lib

/-- Where the document's Touches stands: two rows of its own. -/
structure Stand2 (w3 : World) (N : Nat) (w : World) (vs vo : Value) (x : List Sym × List Sym) : Prop where
  below : Below N w3 w
  size : N ≤ w.heap.size
  seen : OwnSyms w N vs x.1
  out : OwnSyms w N vo x.2
  apart : ∀ g, vs.ownBlock = some g → vo.ownBlock = some g → False
theorem Stand2.mono {w3 : World} {N : Nat} {w w' : World} {vs vo : Value} {x : List Sym × List Sym} (h : Stand2 w3 N w vs vo x) (hB : Below w.heap.size w w') : Stand2 w3 N w' vs vo x :=
  ⟨h.below.trans (hB.mono h.size), Nat.le_trans h.size hB.size, OwnSyms.mono h.seen hB (Nat.le_refl _), OwnSyms.mono h.out hB (Nat.le_refl _), h.apart⟩
theorem Stand2.pushSeen {w3 : World} {N : Nat} {w : World} {vs vo : Value} {ks out : List Sym} (h : Stand2 w3 N w vs vo (ks, out)) (hl : ks.length ≤ 400) (s : Sym) {b : Nat} (hs : SymCells w b 0 s) (c ty : Nat) :
    ∃ v' w', (Builtin.append_ #[72, 72] ty #[vs, .slice (some ⟨b, 0, none⟩) 1 c]).run Tryz.prog w = .ok v' w' ∧ Stand2 w3 N w' v' vo (ks ++ [s], out) ∧ ∀ k, k < w.heap.size → vs.ownBlock ≠ some k → w'.heap[k]? = w.heap[k]? := by
  obtain ⟨v', w', h1, h2, h3, h4⟩ := push_sym h.seen h.size hl s hs c ty
  have hrow : ∀ k, vs.ownBlock = some k → N ≤ k := fun k hk => (OwnSyms.lt h.seen hk).1
  have hk : ∀ k, k < w.heap.size → vs.ownBlock ≠ some k → w'.heap[k]? = w.heap[k]? := fun k hk hne => h3.block k hk (Ne.symm hne)
  refine ⟨v', w', h1, ⟨h.below.grown h3 h.size hrow, Nat.le_trans h.size h3.size, h2, h.out.keep fun g hg => ?_, fun g hg hg' => ?_⟩, hk⟩
  · exact hk g (OwnSyms.lt h.out hg).2 fun e => h.apart g e hg
  · rcases h4 g hg with e | e
    · exact h.apart g e hg'
    · have := (OwnSyms.lt h.out hg').2; omega
theorem Stand2.pushOut {w3 : World} {N : Nat} {w : World} {vs vo : Value} {ks out : List Sym} (h : Stand2 w3 N w vs vo (ks, out)) (hl : out.length ≤ 400) (s : Sym) {b : Nat} (hs : SymCells w b 0 s) (c ty : Nat) :
    ∃ v' w', (Builtin.append_ #[72, 72] ty #[vo, .slice (some ⟨b, 0, none⟩) 1 c]).run Tryz.prog w = .ok v' w' ∧ Stand2 w3 N w' vs v' (ks, out ++ [s]) := by
  obtain ⟨v', w', h1, h2, h3, h4⟩ := push_sym h.out h.size hl s hs c ty
  have hrow : ∀ k, vo.ownBlock = some k → N ≤ k := fun k hk => (OwnSyms.lt h.out hk).1
  refine ⟨v', w', h1, ⟨h.below.grown h3 h.size hrow, Nat.le_trans h.size h3.size, h.seen.keep fun g hg => ?_, h2, fun g hg hg' => ?_⟩⟩
  · exact h3.block g (OwnSyms.lt h.seen hg).2 fun e => h.apart g hg e.symm
  · rcases h4 g hg' with e | e
    · exact h.apart g hg e
    · have := (OwnSyms.lt h.seen hg).2; omega

theorem take_snoc {α : Type} [Inhabited α] (l : List α) {k : Nat} (h : k < l.length) : l.take (k + 1) = l.take k ++ [l[k]!] := by
  rw [List.take_add_one, List.getElem?_eq_getElem h, getElem!_pos l k h]
  rfl
theorem all_at_a (ra rb : List IRow) {k : Nat} (h : k < ra.length) : (symsOf ra ++ symsOf rb)[k]! = ra[k]!.1 := by
  have h1 : k < (symsOf ra).length := by simpa [symsOf] using h
  have h2 : k < (symsOf ra ++ symsOf rb).length := by rw [List.length_append]; omega
  rw [getElem!_pos _ k h2, List.getElem_append_left h1, getElem!_pos ra k h]
  simp [symsOf]
theorem all_at_b (ra rb : List IRow) {k : Nat} (h : ra.length ≤ k) (h' : k - ra.length < rb.length) : (symsOf ra ++ symsOf rb)[k]! = rb[k - ra.length]!.1 := by
  have e : (symsOf ra).length = ra.length := by simp [symsOf]
  have h2 : k < (symsOf ra ++ symsOf rb).length := by rw [List.length_append, e]; simp [symsOf]; omega
  rw [getElem!_pos _ k h2, List.getElem_append_right (by omega), getElem!_pos rb _ h']
  simp [symsOf]

set_option maxRecDepth 100000 in
set_option maxHeartbeats 16000000 in
theorem refTouches (ra rb : List IRow) (ua ub : Value) (w : World) (ha : RowsAt w ua ra) (hb : RowsAt w ub rb) (sa : ∀ r ∈ ra, SitesAt w r.2.1 r.2.2) (sb : ∀ r ∈ rb, SitesAt w r.2.1 r.2.2) (la : ra.length ≤ 100) (lb : rb.length ≤ 100) :
    Calls Tryz.prog 23 #[.agg #[ua], .agg #[ub]] w fun e w' => ∃ v, e = .returned v ∧ SymsAt w' v (touched ra rb (symsOf ra ++ symsOf rb)).2 ∧ Below w.heap.size w w' := by
  obtain ⟨hT, hB, hN⟩ := Two.start ha hb sa sb
  obtain ⟨oa, ca, rfl, _, _⟩ := ha
  obtain ⟨ob, cb, rfl, _, _⟩ := hb
  clear sa sb
  go_enter Tryz.func23, Tryz.ntmps23
  go_wp2
  generalize (w.alloc (.cells #[Value.slice oa ra.length ca] 46)).alloc (.cells #[Value.slice ob rb.length cb] 46) = w3 at *
  have H : Aside (Two w3 w.heap.size (.slice oa ra.length ca) (.slice ob rb.length cb) ra rb ∧ Below w.heap.size w w3 ∧ w3.heap.size = w.heap.size + 1 + 1) := ⟨hT, hB, hN⟩
  clear hT hB hN
  generalize hN : w3.heap.size = N at *
  have HN : Aside (w3.heap.size = N) := hN
  clear hN
  have HL : Aside ((symsOf ra ++ symsOf rb).length = ra.length + rb.length) := by show _ = _; simp [symsOf]
  go_loopg [5, 6, 7] (ra.length + rb.length) (fun g s5 s6 s7 wr => ∃ (kk : Nat) (vo vs : Value), kk ≤ ra.length + rb.length ∧ ra.length + rb.length - kk ≤ g ∧ vo = s5 ∧ vs = s6 ∧ s7 = .int .i64 kk ∧ Aside (Stand2 w3 N wr vs vo (touched ra rb ((symsOf ra ++ symsOf rb).take kk))))
  case atStart => exact ⟨0, _, _, by omega, by omega, rfl, rfl, rfl, ⟨Below.refl _ _, Nat.le_of_eq HN.out.symm, World.ownsRow_nil _ _ _ _, World.ownsRow_nil _ _ _ _, fun g hg => by cases hg⟩⟩
  case round =>
    obtain ⟨kk, vo, vs, hkk, hg, rfl, rfl, rfl, A⟩ := hrel
    have TW : Aside (Two wr w.heap.size (.slice oa ra.length ca) (.slice ob rb.length cb) ra rb) := H.out.1.mono A.out.below (Nat.le_of_eq HN.out)
    have ka := TW.out.xa
    have kb := TW.out.xb
    have ka' := fun o => (Lib.cell?_alloc_some o ka : (wr.alloc o).cell? _ = _)
    by_cases hlt : kk < ra.length + rb.length
    · have hltz : (kk : Int) < (ra.length : Int) + (rb.length : Int) := by omega
      have hkl : kk < (symsOf ra ++ symsOf rb).length := by rw [HL.out]; exact hlt
      have T1 := touched_snoc ra rb ((symsOf ra ++ symsOf rb).take kk) (symsOf ra ++ symsOf rb)[kk]!
      rw [← take_snoc _ hkl] at T1
      have T2 := touched_len ra rb ((symsOf ra ++ symsOf rb).take kk)
      have T3 : ((symsOf ra ++ symsOf rb).take kk).length ≤ 200 := by rw [List.length_take]; omega
      have Xa := all_at_a ra rb (k := kk)
      have Xb := all_at_b ra rb (k := kk)
      generalize (symsOf ra ++ symsOf rb)[kk]! = x at *
      generalize hto : touched ra rb ((symsOf ra ++ symsOf rb).take kk) = st at *
      obtain ⟨ks, out⟩ := st
      have T : Aside (touched ra rb ((symsOf ra ++ symsOf rb).take (kk + 1)) = touch ra rb (ks, out) x ∧ ks.length ≤ 200 ∧ out.length ≤ 200 ∧ Stand2 w3 N wr vs vo (ks, out)) := ⟨T1, by simp only at T2; omega, by simp only at T2; omega, A.out⟩
      clear T1 T2 T3 hto A hkl
      have hB5 : Below wr.heap.size wr (wr.alloc (.cells (encSym x).toArray 50)) := (Below.refl _ wr).alloc (Nat.le_refl _) _
      have M5 : Aside (Stand2 w3 N (wr.alloc (.cells (encSym x).toArray 50)) vs vo (ks, out) ∧ SymCells (wr.alloc (.cells (encSym x).toArray 50)) wr.heap.size 0 x ∧ Two (wr.alloc (.cells (encSym x).toArray 50)) w.heap.size (.slice oa ra.length ca) (.slice ob rb.length cb) ra rb) :=
        ⟨T.out.2.2.2.mono hB5, SymCells.new _ _ _, TW.out.mono hB5 (Nat.le_refl _)⟩
      clear hB5
      have PV : Aside (∀ g, vs.ownBlock = some g → g < wr.heap.size) := fun g hg => (OwnSyms.lt T.out.2.2.2.seen hg).2
      by_cases hin : kk < ra.length
      case' pos =>
        have hinz : (kk : Int) < (ra.length : Int) := by omega
        obtain ⟨b, off, soa, sc, hoa, hbl, j4, _, j5, _, _⟩ := row_at TW.out.fa TW.out.sa hin
        rw [← Xa hin] at j4
        have r0 := fun o => (j4.alloc o).c0
        have r1 := fun o => (j4.alloc o).c1
        have r2 := fun o => (j4.alloc o).c2
        have r3 := fun o => (j4.alloc o).c3
        have r4 := fun o => (j4.alloc o).c4
        clear j4 j5 hbl Xa Xb
        subst hoa
        go_wp2_with fail
        clear r0 r1 r2 r3 r4 ka ka' kb hinz hin
      case' neg =>
        have hinz : ¬ (kk : Int) < (ra.length : Int) := by omega
        have hk2 : kk - ra.length < rb.length := by omega
        obtain ⟨b, off, soa, sc, hob, hbl, j4, _, j5, _, _⟩ := row_at TW.out.fb TW.out.sb hk2
        rw [← Xb (by omega) hk2] at j4
        have ez : (kk : Int) - (ra.length : Int) = ((kk - ra.length : Nat) : Int) := by omega
        have kb' := fun o => (Lib.cell?_alloc_some o kb : (wr.alloc o).cell? _ = _)
        have hk2z : ((kk - ra.length : Nat) : Int) < (rb.length : Int) := by omega
        generalize kk - ra.length = k2 at *
        have r0 := fun o => (j4.alloc o).c0
        have r1 := fun o => (j4.alloc o).c1
        have r2 := fun o => (j4.alloc o).c2
        have r3 := fun o => (j4.alloc o).c3
        have r4 := fun o => (j4.alloc o).c4
        clear j4 j5 hbl Xa Xb
        subst hob
        go_wp2_with fail
        clear r0 r1 r2 r3 r4 ka ka' kb kb' hinz hin hk2 hk2z ez
      all_goals
        have hw5 : (wr.alloc (.cells #[.string x.1, .string x.2.1, .string x.2.2.1, .int .i64 x.2.2.2.1, .string x.2.2.2.2] 50)) = wr.alloc (.cells (encSym x).toArray 50) := rfl
        rw [hw5]
        clear hw5 TW hltz
        generalize wr.alloc (.cells (encSym x).toArray 50) = w5 at *
        have T' : Aside (touched ra rb ((symsOf ra ++ symsOf rb).take (kk + 1)) = touch ra rb (ks, out) x ∧ ks.length ≤ 200 ∧ out.length ≤ 200) := ⟨T.out.1, T.out.2.1, T.out.2.2.1⟩
        clear T
        generalize wr.heap.size = p at *
        have KS : SymsAt w5 vs ks := OwnSyms.syms M5.out.1.seen
        obtain ⟨os, cs, hvs, hml, hks⟩ := KS
        subst hvs
        have HKS : Aside (0 < ks.length → ∃ b off, os = some ⟨b, off, none⟩ ∧ ∀ j, j < ks.length → SymCells w5 b (off + j * 5) ks[j]!) := hks
        have hbig : (ks.length : Int) ≤ 9223372036854775807 := by unfold maxLen at hml; omega
        clear hks hml
        go_loopg [9, 10] ks.length (fun g s9 s10 wq => ∃ (ii q : Nat), ii ≤ ks.length ∧ ks.length - ii ≤ g ∧ s9 = .bool (seenIn (ks.take ii) x) ∧ s10 = .int .i64 ii ∧ wq = w5.drewN q)
        case atStart => exact ⟨0, 0, by omega, by omega, rfl, rfl, rfl⟩
        case round =>
          obtain ⟨ii, q, hii, hg2, rfl, rfl, rfl⟩ := hrel
          by_cases hlt2 : ii < ks.length
          · have hltz2 : (ii : Int) < (ks.length : Int) := by omega
            obtain ⟨b2, off2, rfl, hc⟩ := HKS.out (by omega)
            have c2 := hc ii hlt2
            have q0 := fun m => ((c2.drewN q).drewN m).c0
            have q1 := fun m => ((c2.drewN q).drewN m).c1
            have q2 := fun m => ((c2.drewN q).drewN m).c2
            have q3 := fun m => ((c2.drewN q).drewN m).c3
            have q4 := fun m => ((c2.drewN q).drewN m).c4
            have p0 := fun m => ((M5.out.2.1.drewN q).drewN m).c0
            have p1 := fun m => ((M5.out.2.1.drewN q).drewN m).c1
            have p2 := fun m => ((M5.out.2.1.drewN q).drewN m).c2
            have p3 := fun m => ((M5.out.2.1.drewN q).drewN m).c3
            have p4 := fun m => ((M5.out.2.1.drewN q).drewN m).c4
            have E := (by rw [take_snoc ks hlt2]; simp [seenIn] : seenIn (ks.take (ii + 1)) x = (seenIn (ks.take ii) x || symEq ks[ii]! x))
            have EA : Aside (seenIn (ks.take (ii + 1)) x = (seenIn (ks.take ii) x || symEq ks[ii]! x)) := E
            clear hc c2 E HKS
            generalize ks[ii]! = y at *
            generalize seenIn (ks.take ii) x = acc at *
            have heq := fun w => eql_sym y x w
            have hgd := eqlSym.2
            generalize symEq y x = bb at *
            generalize hwq : w5.drewN q = wq at *
            cases acc with
            | true =>
              go_wp2_with fail
              go_quiet (fail)
              go_wp2
              go_roundg (ks.length - (ii + 1))
              case measure => omega
              case rel => exact ⟨ii + 1, q + nq, by omega, by omega, by rw [EA.out]; rfl, by go_num, by rw [← hwq, World.drewN_drewN]⟩
            | false =>
              go_wp2_with fail
              go_quiet (fail)
              go_wp2
              go_roundg (ks.length - (ii + 1))
              case measure => omega
              case rel => exact ⟨ii + 1, q + nq, by omega, by omega, by rw [EA.out]; rfl, by go_num, by rw [← hwq, World.drewN_drewN]⟩
          · have hltz2 : ¬ (ii : Int) < (ks.length : Int) := by omega
            have : ii = ks.length := by omega
            subst this
            rw [List.take_length]
            have hbd : Below w5.heap.size w5 (w5.drewN q) := below_drewN_q (Below.refl _ _) q
            have M6 : Aside (Stand2 w3 N (w5.drewN q) (.slice os ks.length cs) vo (ks, out) ∧ SymCells (w5.drewN q) p 0 x ∧ Two (w5.drewN q) w.heap.size _ _ ra rb) := ⟨M5.out.1.mono hbd, M5.out.2.1.drewN q, M5.out.2.2.mono hbd (Nat.le_refl _)⟩
            clear M5 hbd HKS
            generalize w5.drewN q = w6 at *
            cases hold : seenIn ks x with
            | true =>
              go_wp2
              go_roundg (ra.length + rb.length - (kk + 1))
              case measure => omega
              case rel =>
                refine ⟨kk + 1, vo, _, by omega, by omega, rfl, rfl, by go_num, (show Aside _ from ?_)⟩
                rw [T'.out.1, touch, if_pos hold]
                exact M6.out.1
            | false =>
              have p0 := M6.out.2.1.c0
              have p1 := M6.out.2.1.c1
              have p2 := M6.out.2.1.c2
              have p3 := M6.out.2.1.c3
              have p4 := M6.out.2.1.c4
              have hB7 : Below w6.heap.size w6 (w6.alloc (.cells (encSym x).toArray 50)) := (Below.refl _ w6).alloc (Nat.le_refl _) _
              obtain ⟨v', w7, happ, ST7, hk7⟩ := (M6.out.1.mono hB7).pushSeen (by have := T'.out.2.1; omega) x (SymCells.new w6 x 50) 1 72
              have hp6 : p < w6.heap.size := M6.out.2.1.block
              have hY7 : SymCells w7 p 0 x := (M6.out.2.1.alloc _).same (hk7 p (by simp; omega) (fun e => by have := PV.out p e; omega))
              have S7 : Aside (Stand2 w3 N w7 v' vo (ks ++ [x], out) ∧ SymCells w7 p 0 x ∧ Two w7 w.heap.size _ _ ra rb) := ⟨ST7, hY7, H.out.1.mono ST7.below (Nat.le_of_eq HN.out)⟩
              clear ST7 hY7 hk7 hB7 M6 hp6
              have k1 := S7.out.2.2.xa
              have y0 := S7.out.2.1.c0
              have y1 := S7.out.2.1.c1
              have y2 := S7.out.2.1.c2
              have y3 := S7.out.2.1.c3
              have y4 := S7.out.2.1.c4
              simp only [encSym] at happ
              go_wp2_with (at_builtin; refine wpList_append_run _ rfl _ _ 72 rfl _ _ _ _ rfl rfl happ ?_)
              clear happ p0 p1 p2 p3 p4 k1 y0 y1 y2 y3 y4
              refine (refFind x _ ra w7 S7.out.2.2.fa).mono fun e w8 he => ?_
              obtain ⟨hfd, hb8⟩ := he
              have T8 : Two w8 w.heap.size _ _ ra rb := S7.out.2.2.mono hb8 (Nat.le_refl _)
              obtain ⟨fa, rfl, hfa⟩ := refFound_one hfd T8.sa
              have S8 : Aside (Stand2 w3 N w8 v' vo (ks ++ [x], out) ∧ SymCells w8 p 0 x ∧ Two w8 w.heap.size _ _ ra rb ∧ SitesAt w8 fa (sitesOf ra x)) := ⟨S7.out.1.mono hb8, S7.out.2.1.mono hb8 S7.out.2.1.block, T8, hfa⟩
              clear hfd hfa hb8 S7 T8
              have k1 := S8.out.2.2.1.xb
              have y0 := S8.out.2.1.c0
              have y1 := S8.out.2.1.c1
              have y2 := S8.out.2.1.c2
              have y3 := S8.out.2.1.c3
              have y4 := S8.out.2.1.c4
              generalize hha : hasSym ra x = ha at *
              go_wp2_with fail
              clear k1 y0 y1 y2 y3 y4
              refine (refFind x _ rb w8 S8.out.2.2.1.fb).mono fun e w9 he => ?_
              obtain ⟨hfd, hb9⟩ := he
              have T9 : Two w9 w.heap.size _ _ ra rb := S8.out.2.2.1.mono hb9 (Nat.le_refl _)
              obtain ⟨fb, rfl, hfb⟩ := refFound_one hfd T9.sb
              have S9 : Aside (Stand2 w3 N w9 v' vo (ks ++ [x], out) ∧ SymCells w9 p 0 x ∧ SitesAt w9 fa (sitesOf ra x) ∧ SitesAt w9 fb (sitesOf rb x)) := ⟨S8.out.1.mono hb9, S8.out.2.1.mono hb9 S8.out.2.1.block, S8.out.2.2.2.mono hb9 (Nat.le_refl _), hfb⟩
              clear hfd hfb hb9 S8 T9
              generalize hhb : hasSym rb x = hb at *
              have D : Aside (diff ra rb x = ((ha != hb) || !(Lib.allEq siteEq (sitesOf ra x) (sitesOf rb x)))) := by rw [← hha, ← hhb]; rfl
              clear hha hhb
              by_cases hab : ha = hb
              · subst hab
                have D1 : diff ra rb x = !(Lib.allEq siteEq (sitesOf ra x) (sitesOf rb x)) := by rw [D.out]; simp
                have D2 : Aside (diff ra rb x = !(Lib.allEq siteEq (sitesOf ra x) (sitesOf rb x))) := D1
                clear D D1
                have hne : ∀ w, Sem.run Tryz.prog (binOp .neq 4 (.bool ha) (.bool ha)) w = .ok (.bool false) w := fun w => by cases ha <;> rfl
                go_wp2_with fail
                refine (refSame _ _ _ _ _ S9.out.2.2.1 S9.out.2.2.2).mono fun e w10 he => ?_
                obtain ⟨rfl, q2, rfl⟩ := he
                have hbd : Below w9.heap.size w9 (w9.drewN q2) := below_drewN_q (Below.refl _ _) q2
                have S10 : Aside (Stand2 w3 N (w9.drewN q2) v' vo (ks ++ [x], out) ∧ SymCells (w9.drewN q2) p 0 x) := ⟨S9.out.1.mono hbd, S9.out.2.1.drewN q2⟩
                clear S9 hbd
                generalize Lib.allEq siteEq (sitesOf ra x) (sitesOf rb x) = bb at *
                generalize w9.drewN q2 = w10 at *
                cases bb with
                | true =>
                  go_wp2
                  go_roundg (ra.length + rb.length - (kk + 1))
                  case measure => omega
                  case rel =>
                    refine ⟨kk + 1, vo, v', by omega, by omega, rfl, rfl, by go_num, (show Aside _ from ?_)⟩
                    rw [T'.out.1, touch, if_neg (by rw [hold]; decide), if_neg (by rw [D2.out]; decide)]
                    exact S10.out.1
                | false =>
                  have y0 := S10.out.2.c0
                  have y1 := S10.out.2.c1
                  have y2 := S10.out.2.c2
                  have y3 := S10.out.2.c3
                  have y4 := S10.out.2.c4
                  have hB11 : Below w10.heap.size w10 (w10.alloc (.cells (encSym x).toArray 50)) := (Below.refl _ w10).alloc (Nat.le_refl _) _
                  obtain ⟨v2, w11, happ, ST11⟩ := (S10.out.1.mono hB11).pushOut (by have := T'.out.2.2; omega) x (SymCells.new w10 x 50) 1 72
                  have S11 : Aside (Stand2 w3 N w11 v' v2 (ks ++ [x], out ++ [x])) := ST11
                  clear hB11 ST11
                  simp only [encSym] at happ
                  go_wp2_with (at_builtin; refine wpList_append_run _ rfl _ _ 72 rfl _ _ _ _ rfl rfl happ ?_)
                  go_roundg (ra.length + rb.length - (kk + 1))
                  case measure => omega
                  case rel =>
                    refine ⟨kk + 1, v2, v', by omega, by omega, rfl, rfl, by go_num, (show Aside _ from ?_)⟩
                    rw [T'.out.1, touch, if_neg (by rw [hold]; decide), if_pos (by rw [D2.out]; rfl)]
                    exact S11.out
              · have D1 : diff ra rb x = true := by rw [D.out]; revert hab; cases ha <;> cases hb <;> simp
                have D2 : Aside (diff ra rb x = true) := D1
                have hne : ∀ w, Sem.run Tryz.prog (binOp .neq 4 (.bool ha) (.bool hb)) w = .ok (.bool true) w := fun w => by revert hab; cases ha <;> cases hb <;> simp <;> rfl
                clear D D1 hab
                have y0 := S9.out.2.1.c0
                have y1 := S9.out.2.1.c1
                have y2 := S9.out.2.1.c2
                have y3 := S9.out.2.1.c3
                have y4 := S9.out.2.1.c4
                have hB11 : Below w9.heap.size w9 (w9.alloc (.cells (encSym x).toArray 50)) := (Below.refl _ w9).alloc (Nat.le_refl _) _
                obtain ⟨v2, w11, happ, ST11⟩ := (S9.out.1.mono hB11).pushOut (by have := T'.out.2.2; omega) x (SymCells.new w9 x 50) 1 72
                have S11 : Aside (Stand2 w3 N w11 v' v2 (ks ++ [x], out ++ [x])) := ST11
                clear hB11 ST11
                simp only [encSym] at happ
                go_wp2_with (at_builtin; refine wpList_append_run _ rfl _ _ 72 rfl _ _ _ _ rfl rfl happ ?_)
                go_roundg (ra.length + rb.length - (kk + 1))
                case measure => omega
                case rel =>
                  refine ⟨kk + 1, v2, v', by omega, by omega, rfl, rfl, by go_num, (show Aside _ from ?_)⟩
                  rw [T'.out.1, touch, if_neg (by rw [hold]; decide), if_pos D2.out]
                  exact S11.out
    · have hltz : ¬ (kk : Int) < (ra.length : Int) + (rb.length : Int) := by omega
      have : kk = ra.length + rb.length := by omega
      subst this
      go_wp2
      go_ret
      refine ⟨_, rfl, ?_, H.out.2.1.trans (A.out.below.mono ?_)⟩
      · have e : (symsOf ra ++ symsOf rb).take (ra.length + rb.length) = symsOf ra ++ symsOf rb := List.take_of_length_le (by rw [HL.out]; exact Nat.le_refl _)
        have hs := OwnSyms.syms A.out.out
        rw [e] at hs
        exact hs
      · have h1 := H.out.2.1.size
        have h2 := HN.out
        omega
end Go.Proofs.YtfgefjpgmfjmjaaGreatDoor
