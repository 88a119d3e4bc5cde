/- The law IndexFinds gives true. -/
import Derived.Test.YtfgefjpgmfjmjaaGreatDoorIxAt
import Derived.Test.YtfgefjpgmfjmjaaGreatDoorWakes
namespace Go.Proofs.YtfgefjpgmfjmjaaGreatDoor
open Go Go.RowKit Go.Shelf Go.Lib

/-- What the law's own boxes and arguments hold. -/
structure Ctx (w : World) (h : Nat) (rv : Value) (s : Sym) (site : Site) (rs : List IRow) : Prop where
  x : w.cell? ⟨h, 0, none⟩ = some rv
  s : SymCells w (h + 1) 0 s
  t : SiteCells w (h + 1 + 1) 0 site
  rows : RowsAt w rv rs
  sites : ∀ r ∈ rs, SitesAt w r.2.1 r.2.2
theorem RowsAt.mono {B : Nat} {w w' : World} {v : Value} {l : List IRow} (h : RowsAt w v l) (hB : Below B w w') (hw : w.heap.size ≤ B) : RowsAt w' v l := by
  obtain ⟨oa, c, e, hm, hc⟩ := h
  refine ⟨oa, c, e, hm, fun h0 => ?_⟩
  obtain ⟨b, off, e, hx⟩ := hc h0
  exact ⟨b, off, e, fun j hj i u hu => (hB.cell (Nat.lt_of_lt_of_le (World.block_lt_of_cell? w _ (hx j hj i u hu)) hw)).trans (hx j hj i u hu)⟩
theorem Ctx.mono {w w' : World} {h : Nat} {rv : Value} {s : Sym} {site : Site} {rs : List IRow} (C : Ctx w h rv s site rs) (hB : Below w.heap.size w w') : Ctx w' h rv s site rs :=
  ⟨(hB.cell (World.block_lt_of_cell? w _ C.x)).trans C.x, C.s.mono hB C.s.block, C.t.mono hB C.t.block, C.rows.mono hB (Nat.le_refl _), fun r hr => (C.sites r hr).mono hB (Nat.le_refl _)⟩
theorem Ctx.start {w : World} {rv : Value} {s : Sym} {site : Site} {rs : List IRow} (hr : RowsAt w rv rs) (hs : ∀ r ∈ rs, SitesAt w r.2.1 r.2.2) :
    Ctx (((w.alloc (.cells #[rv] 46)).alloc (.cells (encSym s).toArray 50)).alloc (.cells (encSite site).toArray 60)) w.heap.size rv s site rs ∧
    Below w.heap.size w (((w.alloc (.cells #[rv] 46)).alloc (.cells (encSym s).toArray 50)).alloc (.cells (encSite site).toArray 60)) := by
  have e1 : (w.alloc (.cells #[rv] 46)).heap.size = w.heap.size + 1 := by simp
  have e2 : ((w.alloc (.cells #[rv] 46)).alloc (.cells (encSym s).toArray 50)).heap.size = w.heap.size + 1 + 1 := by simp
  have B2 : Below w.heap.size w (((w.alloc (.cells #[rv] 46)).alloc (.cells (encSym s).toArray 50)).alloc (.cells (encSite site).toArray 60)) := (((Below.refl _ w).alloc (Nat.le_refl _) _).alloc (by simp) _).alloc (by simp; omega) _
  refine ⟨⟨Lib.cell?_alloc_some _ (Lib.cell?_alloc_some _ (by simp)), ?_, ?_, hr.mono B2 (Nat.le_refl _), fun r hr => (hs r hr).mono B2 (Nat.le_refl _)⟩, B2⟩
  · have := SymCells.new (w.alloc (.cells #[rv] 46)) s 50
    rw [e1] at this
    exact this.alloc _
  · have := SiteCells.new ((w.alloc (.cells #[rv] 46)).alloc (.cells (encSym s).toArray 50)) site 60
    rw [e2] at this
    exact this

/-- A row as a round reads it. -/
theorem row_at {w : World} {oa : Option Addr} {c : Nat} {rs : List IRow} (R : RowsAt w (.slice oa rs.length c) rs) (S : ∀ r ∈ rs, SitesAt w r.2.1 r.2.2) {kk : Nat} (h : kk < rs.length) :
    ∃ b off soa sc, oa = some ⟨b, off, none⟩ ∧ b < w.heap.size ∧ SymCells w b (off + kk * 6) rs[kk]!.1 ∧ rs[kk]!.2.1 = .slice soa rs[kk]!.2.2.length sc ∧ w.cell? ⟨b, off + kk * 6 + 5, none⟩ = some (.slice soa rs[kk]!.2.2.length sc) ∧ rs[kk]!.2.2.length ≤ maxLen ∧ SitesAt w (.slice soa rs[kk]!.2.2.length sc) rs[kk]!.2.2 := by
  obtain ⟨oa', c', e, hm, hc⟩ := R
  cases e
  obtain ⟨b, off, e, hx⟩ := hc (by omega)
  obtain ⟨h1, h2⟩ := RowsAt.cell hx h
  have hmem : rs[kk]! ∈ rs := by rw [getElem!_pos rs kk h]; exact List.getElem_mem _
  have hS := S _ hmem
  have hS2 := hS
  obtain ⟨soa, sc, hv, hl, _⟩ := hS
  rw [hv] at h2 hS2
  exact ⟨b, off, soa, sc, e, h1.block, h1, hv, h2, hl, hS2⟩

theorem allEq_self (l : List Site) : Lib.allEq siteEq l l = true := Lib.allEq_all siteEq l l rfl fun _ _ => (siteEq_iff _ _).2 rfl
/-- What the two Finds give. -/
theorem found_both {s : Sym} {rs : List IRow} {e e' : Ending} {w : World} (h : Found s rs e w) (h' : RefFound s rs e') (S : ∀ r ∈ rs, SitesAt w r.2.1 r.2.2) :
    ∃ (v u : Value) (bb : Bool) (l : List Site), e = .returned (.tuple #[v, .int .i64 (if bb then 0 else 4)]) ∧ e' = .returned (.tuple #[u, .bool bb]) ∧ SitesAt w v l ∧ SitesAt w u l := by
  unfold Found at h
  unfold RefFound at h'
  cases hf : rs.find? (rowFor s) with
  | some r =>
    rw [hf] at h h'
    obtain ⟨v, he, hv⟩ := h
    exact ⟨v, r.2.1, true, r.2.2, he, h', hv, S r (List.mem_of_find?_eq_some hf)⟩
  | none =>
    rw [hf] at h h'
    exact ⟨_, _, false, [], h, h', ⟨none, 0, rfl, Nat.zero_le _, fun h => absurd h (Nat.lt_irrefl _)⟩, ⟨none, 0, rfl, Nat.zero_le _, fun h => absurd h (Nat.lt_irrefl _)⟩⟩
theorem Found.mono {s : Sym} {rs : List IRow} {e : Ending} {w w' : World} (h : Found s rs e w) (hb : Below w.heap.size w w') : Found s rs e w' := by
  unfold Found at h ⊢
  split at h
  · obtain ⟨v, he, hv⟩ := h
    exact ⟨v, he, hv.mono hb (Nat.le_refl _)⟩
  · exact h
theorem found_shape {s : Sym} {rs : List IRow} {e : Ending} {w : World} (h : Found s rs e w) : ∃ (v : Value) (n : Int), e = .returned (.tuple #[v, .int .i64 n]) := by
  unfold Found at h
  split at h
  · obtain ⟨v, he, _⟩ := h; exact ⟨v, _, he⟩
  · exact ⟨_, _, h⟩

/-- The document's word on a site. -/
def AtWord (site : Site) (rs : List IRow) (y : Sym) (f : Int) : Prop :=
  match rs.find? (rowHas site) with
  | some r => y = r.1 ∧ f = 0
  | none => y = zeroSym ∧ f = 4
theorem at_shape {site : Site} {rs : List IRow} {e : Ending} (h : AtGives site rs e) : ∃ (y : Sym) (f : Int), e = .returned (.tuple #[.agg #[.string y.1, .string y.2.1, .string y.2.2.1, .int .i64 y.2.2.2.1, .string y.2.2.2.2], .int .i64 f]) ∧ AtWord site rs y f := by
  unfold AtGives at h
  unfold AtWord
  cases hf : rs.find? (rowHas site) with
  | some r => rw [hf] at h; exact ⟨r.1, 0, h, rfl, rfl⟩
  | none => rw [hf] at h; exact ⟨zeroSym, 4, h, rfl, rfl⟩
theorem AtWord.hit {site : Site} {rs : List IRow} {y : Sym} {f : Int} {r : IRow} (h : AtWord site rs y f) (hf : rs.find? (rowHas site) = some r) : y = r.1 ∧ f = 0 := by unfold AtWord at h; rw [hf] at h; exact h
theorem AtWord.miss {site : Site} {rs : List IRow} {y : Sym} {f : Int} (h : AtWord site rs y f) (hf : rs.find? (rowHas site) = none) : y = zeroSym ∧ f = 4 := by unfold AtWord at h; rw [hf] at h; exact h
theorem siteEq_comm (x y : Site) : siteEq x y = siteEq y x := by
  cases h : siteEq y x with
  | true => rw [siteEq_iff] at h; subst h; exact (siteEq_iff _ _).2 rfl
  | false =>
    cases h' : siteEq x y with
    | true => rw [siteEq_iff] at h'; subst h'; rw [(siteEq_iff _ _).2 rfl] at h; cases h
    | false => rfl
theorem rowHas_of {site : Site} {r : IRow} {i : Nat} (hi : i < r.2.2.length) (h : siteEq r.2.2[i]! site = true) : rowHas site r = true := by
  unfold rowHas
  rw [List.any_eq_true]
  exact ⟨r.2.2[i]!, by rw [getElem!_pos r.2.2 i hi]; exact List.getElem_mem _, by rw [siteEq_comm]; exact h⟩
theorem rowHas_not {site : Site} {r : IRow} (h : ∀ i, i < r.2.2.length → siteEq r.2.2[i]! site = false) : rowHas site r = false := by
  unfold rowHas
  rw [List.any_eq_false]
  intro x hx
  obtain ⟨i, hi, rfl⟩ := List.getElem_of_mem hx
  have := h i hi
  rw [getElem!_pos r.2.2 i hi, siteEq_comm] at this
  simp [this]
theorem site_at {w : World} {soa : Option Addr} {sc : Nat} {l : List Site} (S : SitesAt w (.slice soa l.length sc) l) {ii : Nat} (h : ii < l.length) : ∃ b off, soa = some ⟨b, off, none⟩ ∧ SiteCells w b (off + ii * 2) l[ii]! := by
  obtain ⟨oa, c, e, _, hc⟩ := S
  cases e
  obtain ⟨b, off, e, hx⟩ := hc (by omega)
  exact ⟨b, off, e, SiteCells.of (hx ii h)⟩

set_option maxHeartbeats 8000000 in
theorem law (s : Sym) (site : Site) (rv : Value) (rs : List IRow) (w : World) (hr : RowsAt w rv rs) (hs : ∀ r ∈ rs, SitesAt w r.2.1 r.2.2) :
    Calls Tryz.prog 5 #[.agg #[rv], .agg (encSym s).toArray, .agg (encSite site).toArray] w fun e w' => e = .returned (.bool true) ∧ Below w.heap.size w w' := by
  obtain ⟨hC, hB⟩ := Ctx.start (s := s) (site := site) hr hs
  have hoa := hr
  obtain ⟨oa, c, rfl, hlen, _⟩ := hoa
  have hbig : (rs.length : Int) ≤ 9223372036854775807 := by unfold maxLen at hlen; omega
  have HR : Aside (RowsAt w (.slice oa rs.length c) rs) := hr
  have HC : Aside (Ctx (((w.alloc (.cells #[Value.slice oa rs.length c] 46)).alloc (.cells (encSym s).toArray 50)).alloc (.cells (encSite site).toArray 60)) w.heap.size (.slice oa rs.length c) s site rs ∧ Below w.heap.size w (((w.alloc (.cells #[Value.slice oa rs.length c] 46)).alloc (.cells (encSym s).toArray 50)).alloc (.cells (encSite site).toArray 60))) := ⟨hC, hB⟩
  clear hr hs hC hB
  have hnot : ∀ (x : Bool) (w : World), (Op.unary .not (.bool x)).run Tryz.prog w = .ok (.bool (!x)) w := fun _ _ => rfl
  go_enter Tryz.func5, Tryz.ntmps5
  go_wp2_with fail
  refine (wakes_calls _).mono fun e w1 he => ?_
  obtain ⟨rfl, hb1⟩ := he
  have HD : Aside (Ctx w1 w.heap.size (.slice oa rs.length c) s site rs ∧ Below w.heap.size w w1) := ⟨HC.out.1.mono hb1, HC.out.2.trans (hb1.mono (by simp; omega))⟩
  clear HC hb1
  have k1 := HD.out.1.x
  by_cases h200 : (200 : Int) < (rs.length : Int)
  · go_wp2
    go_ret
    exact ⟨rfl, HD.out.2⟩
  go_wp2_with fail
  go_loopg [28] rs.length (fun g s28 wr => ∃ kk : Nat, kk ≤ rs.length ∧ rs.length - kk ≤ g ∧ s28 = .int .i64 kk ∧ Aside (Ctx wr w.heap.size (.slice oa rs.length c) s site rs ∧ Below w.heap.size w wr ∧ ∀ j, j < kk → rs[j]!.2.2.length ≤ 500))
  case atStart => exact ⟨0, Nat.zero_le _, by omega, rfl, HD.out.1, HD.out.2, fun j hj => absurd hj (Nat.not_lt_zero _)⟩
  case round =>
    obtain ⟨kk, hkk, hg, rfl, A⟩ := hrel
    clear k1 HR
    by_cases hlt : kk < rs.length
    · have hltz : (kk : Int) < (rs.length : Int) := by omega
      obtain ⟨b, off, soa, sc, rfl, hbl, j4, _, j5, hl, _⟩ := row_at A.out.1.rows A.out.1.sites hlt
      have r0 := j4.c0
      have r1 := j4.c1
      have r2 := j4.c2
      have r3 := j4.c3
      have r4 := j4.c4
      have hbl' : (rs[kk]!.2.2.length : Int) ≤ 9223372036854775807 := by unfold maxLen at hl; omega
      clear j4 hl
      generalize hrk : rs[kk]! = r at *
      generalize hsl : r.2.2.length = sl at *
      have R : Aside (rs[kk]! = r ∧ r.2.2.length = sl) := ⟨hrk, hsl⟩
      clear hrk hsl
      have hB : Aside (Below wr.heap.size wr (wr.alloc (.cells (encSym r.1 ++ [Value.slice soa sl sc]).toArray 63))) := (Below.refl _ wr).alloc (Nat.le_refl _) _
      by_cases h500 : (500 : Int) < (sl : Int)
      · go_wp2
        go_ret
        exact ⟨rfl, A.out.2.1.trans (hB.out.mono A.out.2.1.size)⟩
      · go_wp2
        go_roundg (rs.length - (kk + 1))
        case measure => omega
        case rel =>
          refine ⟨kk + 1, by omega, by omega, by go_num, (show Aside _ from ⟨A.out.1.mono hB.out, A.out.2.1.trans (hB.out.mono A.out.2.1.size), fun j hj => ?_⟩)⟩
          by_cases e : j = kk
          · subst e
            rw [R.out.1, R.out.2]; omega
          · exact A.out.2.2 j (by omega)
    · have hltz : ¬ (kk : Int) < (rs.length : Int) := by omega
      have : kk = rs.length := by omega
      subst this
      have k1 := A.out.1.x
      have s0 := A.out.1.s.c0
      have s1 := A.out.1.s.c1
      have s2 := A.out.1.s.c2
      have s3 := A.out.1.s.c3
      have s4 := A.out.1.s.c4
      have hs5 : ∀ r ∈ rs, SitesAt wr r.2.1 r.2.2 ∧ r.2.2.length ≤ 500 := fun r hr => ⟨A.out.1.sites r hr, by
        obtain ⟨i, hi, rfl⟩ := List.getElem_of_mem hr
        have := A.out.2.2 i hi
        rw [getElem!_pos rs i hi] at this
        exact this⟩
      have HS : Aside (∀ r ∈ rs, r.2.2.length ≤ 500) := fun r hr => (hs5 r hr).2
      have HF := ixFind s _ rs wr A.out.1.rows hs5
      have HF' : Aside (Calls Tryz.prog 18 #[.agg #[Value.slice oa rs.length c], .agg (encSym s).toArray] wr fun e w' => Found s rs e w' ∧ Below wr.heap.size wr w') := HF
      clear HF hs5
      go_wp2_with fail
      refine HF'.out.mono fun e w2 he => ?_
      obtain ⟨hfd, hb2⟩ := he
      obtain ⟨fv, fn, rfl⟩ := found_shape hfd
      have A2 : Aside (Ctx w2 w.heap.size (.slice oa rs.length c) s site rs ∧ Below w.heap.size w w2 ∧ Found s rs (.returned (.tuple #[fv, .int .i64 fn])) w2) := ⟨A.out.1.mono hb2, A.out.2.1.trans (hb2.mono A.out.2.1.size), hfd⟩
      clear hfd hb2 HF' k1 s0 s1 s2 s3 s4 A
      have k1 := A2.out.1.x
      have s0 := A2.out.1.s.c0
      have s1 := A2.out.1.s.c1
      have s2 := A2.out.1.s.c2
      have s3 := A2.out.1.s.c3
      have s4 := A2.out.1.s.c4
      go_wp2_with fail
      refine (refFind s _ rs w2 A2.out.1.rows).mono fun e w3 he => ?_
      obtain ⟨hrf, hb3⟩ := he
      have hS3 : ∀ r ∈ rs, SitesAt w3 r.2.1 r.2.2 := fun r hr => (A2.out.1.sites r hr).mono hb3 (Nat.le_refl _)
      clear k1 s0 s1 s2 s3 s4
      obtain ⟨v, u, bb, l, he1, rfl, hv, hu⟩ := found_both (A2.out.2.2.mono hb3) hrf hS3
      obtain ⟨rfl, rfl⟩ : fv = v ∧ fn = (if bb then 0 else 4) := by
        have h1 := congrArg (fun e => match e with | Ending.returned (.tuple a) => a.toList | _ => []) he1
        simp at h1
        exact h1
      have A3 : Aside (Ctx w3 w.heap.size (.slice oa rs.length c) s site rs ∧ Below w.heap.size w w3 ∧ SitesAt w3 fv l ∧ SitesAt w3 u l) := ⟨A2.out.1.mono hb3, A2.out.2.1.trans (hb3.mono A2.out.2.1.size), hv, hu⟩
      clear hv hu hrf hS3 hb3 he1 A2
      cases bb <;> simp only [if_true, if_false, Bool.false_eq_true] <;> go_wp2_with fail
      all_goals
        refine (refSame l l _ _ _ A3.out.2.2.1 A3.out.2.2.2).mono fun e w4 he => ?_
        obtain ⟨rfl, q, rfl⟩ := he
        rw [allEq_self]
        have hbq : Below w3.heap.size w3 (w3.drewN q) := below_drewN_q (Below.refl _ _) q
        have A4 : Aside (Ctx (w3.drewN q) w.heap.size (.slice oa rs.length c) s site rs ∧ Below w.heap.size w (w3.drewN q)) := ⟨A3.out.1.mono hbq, A3.out.2.1.trans (hbq.mono A3.out.2.1.size)⟩
        clear hbq A3
        generalize w3.drewN q = w4 at *
        have k1 := A4.out.1.x
        have s0 := A4.out.1.t.c0
        have s1 := A4.out.1.t.c1
        go_wp2_with fail
        refine (ixAt site _ rs w4 A4.out.1.rows fun r hr => ⟨A4.out.1.sites r hr, HS.out r hr⟩).mono fun e w5 he => ?_
        obtain ⟨hat, hb5⟩ := he
        obtain ⟨y, f, rfl, hy⟩ := at_shape hat
        have hB6 : Below w5.heap.size w5 (w5.alloc (.cells (encSym y).toArray 50)) := (Below.refl _ w5).alloc (Nat.le_refl _) _
        have A5 : Aside (Ctx w5 w.heap.size (.slice oa rs.length c) s site rs ∧ Below w.heap.size w w5) := ⟨A4.out.1.mono hb5, A4.out.2.trans (hb5.mono A4.out.2.size)⟩
        have A6 : Aside (Ctx (w5.alloc (.cells (encSym y).toArray 50)) w.heap.size (.slice oa rs.length c) s site rs ∧ Below w.heap.size w (w5.alloc (.cells (encSym y).toArray 50)) ∧ SymCells (w5.alloc (.cells (encSym y).toArray 50)) w5.heap.size 0 y ∧ AtWord site rs y f) := ⟨A5.out.1.mono hB6, A5.out.2.trans (hB6.mono A5.out.2.size), SymCells.new _ _ _, hy⟩
        clear hat hb5 hB6 hy A4 k1 s0 s1
        have k1 : ∀ o, (w5.alloc o).cell? ⟨w.heap.size, 0, none⟩ = some (.slice oa rs.length c) := fun o => Lib.cell?_alloc_some _ A5.out.1.x
        go_wp2_with fail
        have hw6 : (w5.alloc (.cells #[.string y.1, .string y.2.1, .string y.2.2.1, .int .i64 y.2.2.2.1, .string y.2.2.2.2] 50)) = w5.alloc (.cells (encSym y).toArray 50) := rfl
        rw [hw6]
        clear hw6 k1 A5
        generalize w5.alloc (.cells (encSym y).toArray 50) = w6 at *
        generalize w5.heap.size = hb at *
        go_loopg [76] rs.length (fun g s76 wr => ∃ kk : Nat, kk ≤ rs.length ∧ rs.length - kk ≤ g ∧ s76 = .int .i64 kk ∧ Aside (Ctx wr w.heap.size (.slice oa rs.length c) s site rs ∧ Below w.heap.size w wr ∧ SymCells wr hb 0 y ∧ ∀ j, j < kk → rowHas site rs[j]! = false))
        case atStart => exact ⟨0, Nat.zero_le _, by omega, rfl, A6.out.1, A6.out.2.1, A6.out.2.2.1, fun j hj => absurd hj (Nat.not_lt_zero _)⟩
        case round =>
          obtain ⟨kk, hkk, hg, rfl, A⟩ := hrel
          by_cases hlt : kk < rs.length
          · have hltz : (kk : Int) < (rs.length : Int) := by omega
            obtain ⟨b, off, soa, sc, rfl, hbl, j4, _, j5, hl, hS⟩ := row_at A.out.1.rows A.out.1.sites hlt
            have r0 := j4.c0
            have r1 := j4.c1
            have r2 := j4.c2
            have r3 := j4.c3
            have r4 := j4.c4
            have hbl' : (rs[kk]!.2.2.length : Int) ≤ 9223372036854775807 := by unfold maxLen at hl; omega
            clear j4 hl
            generalize hrk : rs[kk]! = r at *
            have R : Aside (rs[kk]! = r ∧ SitesAt wr (.slice soa r.2.2.length sc) r.2.2) := ⟨hrk, hS⟩
            clear hrk hS
            have hB : Aside (Below wr.heap.size wr (wr.alloc (.cells (encSym r.1 ++ [Value.slice soa r.2.2.length sc]).toArray 63))) := (Below.refl _ wr).alloc (Nat.le_refl _) _
            have hY : SymCells (wr.alloc (.cells (encSym r.1 ++ [Value.slice soa r.2.2.length sc]).toArray 63)) wr.heap.size 0 r.1 := SymCells.of fun i u hu => by
              have := World.cell?_alloc_mark wr (encSym r.1 ++ [Value.slice soa r.2.2.length sc]).toArray 63 (0, 0) i
              rw [Nat.zero_add, this]
              rw [List.getElem?_toArray, List.getElem?_append_left (List.getElem?_eq_some_iff.1 hu).1]; exact hu
            have D : Aside (Ctx (wr.alloc (.cells (encSym r.1 ++ [Value.slice soa r.2.2.length sc]).toArray 63)) w.heap.size (.slice (some ⟨b, off, none⟩) rs.length c) s site rs ∧ Below w.heap.size w (wr.alloc (.cells (encSym r.1 ++ [Value.slice soa r.2.2.length sc]).toArray 63)) ∧ SymCells (wr.alloc (.cells (encSym r.1 ++ [Value.slice soa r.2.2.length sc]).toArray 63)) hb 0 y ∧
                SymCells (wr.alloc (.cells (encSym r.1 ++ [Value.slice soa r.2.2.length sc]).toArray 63)) wr.heap.size 0 r.1 ∧ SitesAt (wr.alloc (.cells (encSym r.1 ++ [Value.slice soa r.2.2.length sc]).toArray 63)) (.slice soa r.2.2.length sc) r.2.2) :=
              ⟨A.out.1.mono hB.out, A.out.2.1.trans (hB.out.mono A.out.2.1.size), A.out.2.2.1.mono hB.out A.out.2.2.1.block, hY, R.out.2.mono hB.out (Nat.le_refl _)⟩
            clear hY hB
            generalize hsl : r.2.2.length = sl at *
            have L : Aside (r.2.2.length = sl) := hsl
            clear hsl
            go_wp2_with fail
            have hw7 : (wr.alloc (.cells #[.string r.1.1, .string r.1.2.1, .string r.1.2.2.1, .int .i64 r.1.2.2.2.1, .string r.1.2.2.2.2, .slice soa sl sc] 63)) = wr.alloc (.cells (encSym r.1 ++ [Value.slice soa sl sc]).toArray 63) := rfl
            rw [hw7]
            have RR : Aside (rs[kk]! = r) := R.out.1
            clear hw7 R r0 r1 r2 r3 r4 j5 hbl
            generalize wr.alloc (.cells (encSym r.1 ++ [Value.slice soa sl sc]).toArray 63) = w7 at *
            have AA : Aside (∀ j, j < kk → rowHas site rs[j]! = false) := A.out.2.2.2
            clear A
            generalize wr.heap.size = hr at *
            go_loopg [83] sl (fun g s83 wq => ∃ ii : Nat, ii ≤ sl ∧ sl - ii ≤ g ∧ s83 = .int .i64 ii ∧ Aside (Ctx wq w.heap.size (.slice (some ⟨b, off, none⟩) rs.length c) s site rs ∧ Below w.heap.size w wq ∧ SymCells wq hb 0 y ∧ SymCells wq hr 0 r.1 ∧ SitesAt wq (.slice soa sl sc) r.2.2 ∧ ∀ j, j < ii → siteEq r.2.2[j]! site = false))
            case atStart => exact ⟨0, Nat.zero_le _, by omega, rfl, D.out.1, D.out.2.1, D.out.2.2.1, D.out.2.2.2.1, D.out.2.2.2.2, fun j hj => absurd hj (Nat.not_lt_zero _)⟩
            case round =>
              obtain ⟨ii, hii, hg2, rfl, A⟩ := hrel
              by_cases hlt2 : ii < sl
              · have hltz2 : (ii : Int) < (sl : Int) := by omega
                have S5 : SitesAt wr (.slice soa r.2.2.length sc) r.2.2 := by rw [L.out]; exact A.out.2.2.2.2.1
                obtain ⟨b2, off2, rfl, q0⟩ := site_at S5 (by rw [L.out]; exact hlt2)
                have c0 := q0.c0
                have c1 := q0.c1
                have d0 := fun o => (A.out.1.t.alloc o).c0
                have d1 := fun o => (A.out.1.t.alloc o).c1
                clear q0 S5
                generalize hrx : r.2.2[ii]! = x at *
                have RX : Aside (r.2.2[ii]! = x) := hrx
                clear hrx
                have heq := fun w => eql_site x site w
                have hgd := eqlSite.2
                have hB : Aside (Below wr.heap.size wr (wr.alloc (.cells (encSite x).toArray 60))) := (Below.refl _ wr).alloc (Nat.le_refl _) _
                cases hq : siteEq x site with
                | true =>
                  rw [hq] at heq
                  have hh : rowHas site r = true := rowHas_of (i := ii) (by rw [L.out]; exact hlt2) (by rw [RX.out]; exact hq)
                  have hf := find_hit (p := rowHas site) hlt (by rw [RR.out]; exact hh) AA.out
                  rw [RR.out] at hf
                  obtain ⟨rfl, rfl⟩ := AtWord.hit A6.out.2.2.2 hf
                  have x0 := fun o => (A.out.2.2.1.alloc o).c0
                  have x1 := fun o => (A.out.2.2.1.alloc o).c1
                  have x2 := fun o => (A.out.2.2.1.alloc o).c2
                  have x3 := fun o => (A.out.2.2.1.alloc o).c3
                  have x4 := fun o => (A.out.2.2.1.alloc o).c4
                  have y0 := fun o => (A.out.2.2.2.1.alloc o).c0
                  have y1 := fun o => (A.out.2.2.2.1.alloc o).c1
                  have y2 := fun o => (A.out.2.2.2.1.alloc o).c2
                  have y3 := fun o => (A.out.2.2.2.1.alloc o).c3
                  have y4 := fun o => (A.out.2.2.2.1.alloc o).c4
                  have heq2 := fun w => eql_sym r.1 r.1 w
                  rw [(symEq_iff r.1 r.1).2 rfl] at heq2
                  have hgd2 := eqlSym.2
                  clear A6 hf hh
                  go_wp2
                  go_ret
                  exact ⟨rfl, A.out.2.1.trans (hB.out.mono A.out.2.1.size)⟩
                | false =>
                  rw [hq] at heq
                  go_wp2
                  go_roundg (sl - (ii + 1))
                  case measure => omega
                  case rel =>
                    refine ⟨ii + 1, by omega, by omega, by go_num, (show Aside _ from ⟨A.out.1.mono hB.out, A.out.2.1.trans (hB.out.mono A.out.2.1.size), A.out.2.2.1.alloc _, A.out.2.2.2.1.alloc _, A.out.2.2.2.2.1.mono hB.out (Nat.le_refl _), fun j hj => ?_⟩)⟩
                    by_cases e : j = ii
                    · subst e
                      rw [RX.out]; exact hq
                    · exact A.out.2.2.2.2.2 j (by omega)
              · have hltz2 : ¬ (ii : Int) < (sl : Int) := by omega
                have : ii = sl := by omega
                subst this
                have hno : rowHas site r = false := rowHas_not (by rw [L.out]; exact A.out.2.2.2.2.2)
                have HN : Aside (rowHas site r = false) := hno
                clear hno
                go_wp2
                go_roundg (rs.length - (kk + 1))
                case measure => omega
                case rel =>
                  refine ⟨kk + 1, by omega, by omega, by go_num, (show Aside _ from ⟨A.out.1, A.out.2.1, A.out.2.2.1, fun j hj => ?_⟩)⟩
                  by_cases e : j = kk
                  · subst e
                    rw [RR.out]; exact HN.out
                  · exact AA.out j (by omega)
          · have hltz : ¬ (kk : Int) < (rs.length : Int) := by omega
            have : kk = rs.length := by omega
            subst this
            obtain ⟨rfl, rfl⟩ := AtWord.miss A6.out.2.2.2 (find_miss A.out.2.2.2)
            have x0 := A.out.2.2.1.c0
            have x1 := A.out.2.2.1.c1
            have x2 := A.out.2.2.1.c2
            have x3 := A.out.2.2.1.c3
            have x4 := A.out.2.2.1.c4
            have heq := fun w => eql_sym zeroSym zeroSym w
            rw [(symEq_iff zeroSym zeroSym).2 rfl] at heq
            have hgd := eqlSym.2
            simp only [zeroSym] at x0 x1 x2 x3 x4 heq
            clear A6
            go_wp2
            go_ret
            exact ⟨rfl, A.out.2.1⟩
end Go.Proofs.YtfgefjpgmfjmjaaGreatDoor
