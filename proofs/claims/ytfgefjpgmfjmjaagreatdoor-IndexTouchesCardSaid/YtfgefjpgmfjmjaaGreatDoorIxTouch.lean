/- What the program's Touches does. -/
import Derived.Test.YtfgefjpgmfjmjaaGreatDoorIxMap
namespace Go.Proofs.YtfgefjpgmfjmjaaGreatDoor
open Go Go.RowKit Go.Shelf Go.Lib

def hasSym (rs : List IRow) (s : Sym) : Bool := (rs.find? (rowFor s)).isSome
def sitesOf (rs : List IRow) (s : Sym) : List Site := match rs.find? (rowFor s) with
  | some r => r.2.2
  | none => []
def diff (ra rb : List IRow) (s : Sym) : Bool := (hasSym ra s != hasSym rb s) || !(Lib.allEq siteEq (sitesOf ra s) (sitesOf rb s))
def touch (ra rb : List IRow) (x : List Sym × List Sym) (s : Sym) : List Sym × List Sym :=
  if seenIn x.1 s then x else (x.1 ++ [s], if diff ra rb s then x.2 ++ [s] else x.2)
def touched (ra rb : List IRow) (l : List Sym) : List Sym × List Sym := l.foldl (touch ra rb) ([], [])
theorem touched_snoc (ra rb : List IRow) (l : List Sym) (s : Sym) : touched ra rb (l ++ [s]) = touch ra rb (touched ra rb l) s := by
  unfold touched; rw [List.foldl_append]; rfl
theorem touch_len (ra rb : List IRow) (x : List Sym × List Sym) (s : Sym) : (touch ra rb x s).1.length ≤ x.1.length + 1 ∧ (touch ra rb x s).2.length ≤ x.2.length + 1 := by
  unfold touch
  split
  · omega
  · refine ⟨by simp, ?_⟩
    split
    · simp
    · simp
theorem touched_len (ra rb : List IRow) (l : List Sym) : (touched ra rb l).1.length ≤ l.length ∧ (touched ra rb l).2.length ≤ l.length := by
  have gen : ∀ (l : List Sym) (x : List Sym × List Sym), (l.foldl (touch ra rb) x).1.length ≤ x.1.length + l.length ∧ (l.foldl (touch ra rb) x).2.length ≤ x.2.length + l.length := by
    intro l
    induction l with
    | nil => intro x; simp
    | cons s l ih =>
      intro x
      have h1 := ih (touch ra rb x s)
      have h2 := touch_len ra rb x s
      rw [List.foldl_cons, List.length_cons]
      omega
  have := gen l ([], [])
  simpa [touched] using this
def symsOf (rs : List IRow) : List Sym := rs.map (·.1)
theorem take_syms (rs : List IRow) {k : Nat} (h : k < rs.length) : (symsOf rs).take (k + 1) = (symsOf rs).take k ++ [rs[k]!.1] := by
  have hk : k < (symsOf rs).length := by simpa [symsOf] using h
  rw [List.take_add_one, List.getElem?_eq_getElem hk, getElem!_pos rs k h]
  simp [symsOf]

def errOf (b : Bool) : Int := if b then 0 else 4
theorem found_one {s : Sym} {rs : List IRow} {e : Ending} {w : World} (h : Found s rs e w) : ∃ v, e = .returned (.tuple #[v, .int .i64 (errOf (hasSym rs s))]) ∧ SitesAt w v (sitesOf rs s) := by
  unfold Found at h
  unfold hasSym sitesOf
  cases hf : rs.find? (rowFor s) with
  | some r => rw [hf] at h; obtain ⟨v, he, hv⟩ := h; exact ⟨v, he, hv⟩
  | none => rw [hf] at h; exact ⟨_, h, none, 0, rfl, Nat.zero_le _, fun h => absurd h (Nat.lt_irrefl _)⟩
theorem refFound_one {s : Sym} {rs : List IRow} {e : Ending} {w : World} (h : RefFound s rs e) (S : ∀ r ∈ rs, SitesAt w r.2.1 r.2.2) : ∃ v, e = .returned (.tuple #[v, .bool (hasSym rs s)]) ∧ SitesAt w v (sitesOf rs s) := by
  unfold RefFound at h
  unfold hasSym sitesOf
  cases hf : rs.find? (rowFor s) with
  | some r => rw [hf] at h; exact ⟨_, h, S r (List.mem_of_find?_eq_some hf)⟩
  | none => rw [hf] at h; exact ⟨_, h, none, 0, rfl, Nat.zero_le _, fun h => absurd h (Nat.lt_irrefl _)⟩

/-- The two indices in memory. -/
structure Two (w : World) (h : Nat) (ua ub : Value) (ra rb : List IRow) : Prop where
  xa : w.cell? ⟨h, 0, none⟩ = some ua
  xb : w.cell? ⟨h + 1, 0, none⟩ = some ub
  fa : RowsAt w ua ra
  fb : RowsAt w ub rb
  sa : ∀ r ∈ ra, SitesAt w r.2.1 r.2.2
  sb : ∀ r ∈ rb, SitesAt w r.2.1 r.2.2
theorem Two.mono {B : Nat} {w w' : World} {h : Nat} {ua ub : Value} {ra rb : List IRow} (C : Two w h ua ub ra rb) (hB : Below B w w') (hw : w.heap.size ≤ B) : Two w' h ua ub ra rb :=
  ⟨(hB.cell (Nat.lt_of_lt_of_le (World.block_lt_of_cell? w _ C.xa) hw)).trans C.xa, (hB.cell (Nat.lt_of_lt_of_le (World.block_lt_of_cell? w _ C.xb) hw)).trans C.xb, C.fa.mono hB hw, C.fb.mono hB hw, fun r hr => (C.sa r hr).mono hB hw, fun r hr => (C.sb r hr).mono hB hw⟩
theorem Two.start {w : World} {ua ub : Value} {ra rb : List IRow} (ha : RowsAt w ua ra) (hb : RowsAt w ub rb) (sa : ∀ r ∈ ra, SitesAt w r.2.1 r.2.2) (sb : ∀ r ∈ rb, SitesAt w r.2.1 r.2.2) :
    Two ((w.alloc (.cells #[ua] 46)).alloc (.cells #[ub] 46)) w.heap.size ua ub ra rb ∧ Below w.heap.size w ((w.alloc (.cells #[ua] 46)).alloc (.cells #[ub] 46)) ∧ ((w.alloc (.cells #[ua] 46)).alloc (.cells #[ub] 46)).heap.size = w.heap.size + 1 + 1 := by
  have hB : Below w.heap.size w ((w.alloc (.cells #[ua] 46)).alloc (.cells #[ub] 46)) := ((Below.refl _ w).alloc (Nat.le_refl _) _).alloc (by simp) _
  refine ⟨⟨Lib.cell?_alloc_some _ (by simp), ?_, ha.mono hB (Nat.le_refl _), hb.mono hB (Nat.le_refl _), fun r hr => (sa r hr).mono hB (Nat.le_refl _), fun r hr => (sb r hr).mono hB (Nat.le_refl _)⟩, hB, by simp⟩
  have := World.cell?_alloc_mark (w.alloc (.cells #[ua] 46)) #[ub] 46 (0, 0) 0
  have e : (w.alloc (.cells #[ua] 46)).heap.size = w.heap.size + 1 := by simp
  rw [e] at this
  rw [this]; rfl

theorem SymCells.same {w w' : World} {b o : Nat} {s : Sym} (h : SymCells w b o s) (hb : w'.heap[b]? = w.heap[b]?) : SymCells w' b o s :=
  ⟨(World.cell?_of_block hb).trans h.c0, (World.cell?_of_block hb).trans h.c1, (World.cell?_of_block hb).trans h.c2, (World.cell?_of_block hb).trans h.c3, (World.cell?_of_block hb).trans h.c4⟩

/-- Where the program's Touches stands: the map, and what is told so far. -/
structure Stand (w3 : World) (N : Nat) (w : World) (v : Value) (x : List Sym × List Sym) : Prop where
  below : Below N w3 w
  map : MapAt w N x.1
  own : OwnSyms w (N + 1) v x.2
theorem Stand.mono {w3 : World} {N : Nat} {w w' : World} {v : Value} {x : List Sym × List Sym} (h : Stand w3 N w v x) (hB : Below w.heap.size w w') : Stand w3 N w' v x :=
  ⟨h.below.trans (hB.mono (Nat.le_of_lt h.map.lt)), h.map.mono hB h.map.lt, OwnSyms.mono h.own hB (Nat.le_refl _)⟩
theorem Stand.push {w3 : World} {N : Nat} {w : World} {v : Value} {ks out : List Sym} (h : Stand w3 N w v (ks, out)) (hl : out.length ≤ 400) (s : Sym) {b : Nat} (hs : SymCells w b 0 s) (c ty : Nat) :
    ∃ v' w', (Builtin.append_ #[72, 72] ty #[v, .slice (some ⟨b, 0, none⟩) 1 c]).run Tryz.prog w = .ok v' w' ∧ Stand w3 N w' v' (ks, out ++ [s]) := by
  obtain ⟨v', w', h1, h2, h3, _⟩ := push_sym h.own h.map.lt hl s hs c ty
  have hrow : ∀ k, v.ownBlock = some k → N ≤ k := fun k hk => by have := (OwnSyms.lt h.own hk).1; omega
  refine ⟨v', w', h1, h.below.grown h3 (Nat.le_of_lt h.map.lt) hrow, ?_, h2⟩
  obtain ⟨ms, clock, k1, k2⟩ := h.map
  refine ⟨ms, clock, (h3.block N h.map.lt fun e => ?_).trans k1, k2⟩
  have := (OwnSyms.lt h.own e.symm).1
  omega
theorem Stand.update {w3 : World} {N : Nat} {w : World} {v : Value} {ks out : List Sym} (h : Stand w3 N w v (ks, out)) (s : Sym) (hs : seenIn ks s = false) :
    ∃ w', (Instr.mapUpdate 113 (.map (some N)) (encS s) (.bool true)).run Tryz.prog w = .ok () w' ∧ Stand w3 N w' v (ks ++ [s], out) ∧ ∀ k, k ≠ N → w'.heap[k]? = w.heap[k]? := by
  obtain ⟨w', h1, h2, h3, h4⟩ := update_sym h.map s hs
  exact ⟨w', h1, ⟨h.below.trans h3, h2, h.own.keep fun g hg => h4 g (by have := (OwnSyms.lt h.own hg).1; omega)⟩, h4⟩

/-- .. and the row that is looked at, and the two indices. -/
structure Mid (w3 : World) (N h : Nat) (ua ub : Value) (ra rb : List IRow) (bk : Nat) (s : Sym) (w : World) (v : Value) (x : List Sym × List Sym) : Prop where
  stand : Stand w3 N w v x
  sym : SymCells w bk 0 s
  two : Two w h ua ub ra rb
theorem Mid.mono {w3 : World} {N h : Nat} {ua ub : Value} {ra rb : List IRow} {bk : Nat} {s : Sym} {w w' : World} {v : Value} {x : List Sym × List Sym} (M : Mid w3 N h ua ub ra rb bk s w v x) (hB : Below w.heap.size w w') : Mid w3 N h ua ub ra rb bk s w' v x :=
  ⟨M.stand.mono hB, M.sym.mono hB M.sym.block, M.two.mono hB (Nat.le_refl _)⟩

/-- An append whose run is known. -/
theorem wpList_append_run {P : Program} (w : World) {ops : Array Oper} {rest : List Oper} {o : Oper} {a : Act} {Q : Exit → Act → World → Prop} (hg : o.guard = none) (s x : Operand) (t : TypeId)
    (hop : o.op = Op.call { callee := Callee.builtin Builtin.append, args := #[s, x], argTypes := #[t, t] }) (sv xv v' : Value) (w' : World) (hs : a.eval s = sv) (hx : a.eval x = xv)
    (hrun : (Builtin.append_ #[t, t] o.type #[sv, xv]).run P w = .ok v' w') (hK : wpList P ops Q rest (a.put o.dst v') w') : wpList P ops Q (o :: rest) a w := by
  refine wpList_plain hg fun K hK' => ?_
  unfold Oper.wp
  simp [execOp, hop, resolve, invoke, builtin, hs, hx, hrun, Result.andThen]
  exact hK' _ _ hK

def pre (ra rb : List IRow) : Nat → List Sym
  | 0 => []
  | 1 => symsOf ra
  | _ => symsOf ra ++ symsOf rb

set_option maxRecDepth 100000 in
set_option maxHeartbeats 16000000 in
theorem ixTouches (ra rb : List IRow) (ua ub : Value) (w : World) (ha : RowsAt w ua ra) (hb : RowsAt w ub rb) (sa : ∀ r ∈ ra, SitesAt w r.2.1 r.2.2 ∧ r.2.2.length ≤ 500) (sb : ∀ r ∈ rb, SitesAt w r.2.1 r.2.2 ∧ r.2.2.length ≤ 500) (la : ra.length ≤ 100) (lb : rb.length ≤ 100) :
    Calls Tryz.prog 22 #[.agg #[ua], .agg #[ub]] w fun e w' => ∃ v, e = .returned v ∧ SymsAt w' v (touched ra rb (symsOf ra ++ symsOf rb)).2 ∧ Below w.heap.size w w' := by
  obtain ⟨hT, hB, hN⟩ := Two.start ha hb (fun r hr => (sa r hr).1) (fun r hr => (sb r hr).1)
  obtain ⟨oa, ca, rfl, _, _⟩ := ha
  obtain ⟨ob, cb, rfl, _, _⟩ := hb
  have H5 : Aside ((∀ r ∈ ra, r.2.2.length ≤ 500) ∧ (∀ r ∈ rb, r.2.2.length ≤ 500)) := ⟨fun r hr => (sa r hr).2, fun r hr => (sb r hr).2⟩
  clear sa sb
  have hmm := @run_makeMap Tryz.prog
  go_enter Tryz.func22, Tryz.ntmps22
  go_wp2
  generalize (w.alloc (.cells #[Value.slice oa ra.length ca] 46)).alloc (.cells #[Value.slice ob rb.length cb] 46) = w3 at *
  have hst : Stand w3 (w.heap.size + 1 + 1) (w3.alloc (.map #[] 0)) (.slice none 0 0) (touched ra rb (pre ra rb 0)) := by
    rw [← hN]
    refine ⟨(Below.refl _ w3).alloc (Nat.le_refl _) _, ⟨#[], 0, ?_, .nil⟩, World.ownsRow_nil _ _ _ _⟩
    show (w3.heap.push _)[w3.heap.size]? = _
    simp
  have H : Aside (Two w3 w.heap.size (.slice oa ra.length ca) (.slice ob rb.length cb) ra rb ∧ Below w.heap.size w w3 ∧ w3.heap.size = w.heap.size + 1 + 1) := ⟨hT, hB, hN⟩
  have HST : Aside (Stand w3 (w.heap.size + 1 + 1) (w3.alloc (.map #[] 0)) (.slice none 0 0) (touched ra rb (pre ra rb 0))) := hst
  clear hT hB hN hst
  generalize w.heap.size + 1 + 1 = N at *
  go_loopg [5, 21] 2 (fun g s5 s21 wr => ∃ (i : Nat) (v : Value), i ≤ 2 ∧ 2 - i ≤ g ∧ v = s5 ∧ s21 = .int .i64 i ∧ Aside (Stand w3 N wr v (touched ra rb (pre ra rb i))))
  case atStart => exact ⟨0, _, by omega, by omega, rfl, rfl, HST.out⟩
  case round =>
    obtain ⟨i, v, hi, hg, rfl, rfl, A⟩ := hrel
    clear HST
    by_cases hlt : i < 2
    · have hltz : (i : Int) < 2 := by omega
      have P : ∃ (R : List IRow) (oR : Option Addr) (cR : Nat), (∀ w, Sem.run Tryz.prog (Instr.index 114 (.agg #[.slice oa ra.length ca, .slice ob rb.length cb]) (.int .i64 i)) w = .ok (.slice oR R.length cR) w) ∧ RowsAt w3 (.slice oR R.length cR) R ∧ (∀ r ∈ R, SitesAt w3 r.2.1 r.2.2) ∧ pre ra rb (i + 1) = pre ra rb i ++ symsOf R ∧ R.length ≤ 100 ∧ (pre ra rb i).length ≤ 100 := by
        have u44 := Tryz.underlying44
        have a44 := Tryz.isAgg44
        have z44 := Tryz.sizeOf44
        have u114 := run_underlying Tryz.underlying114
        rcases (by omega : i = 0 ∨ i = 1) with rfl | rfl
        · refine ⟨ra, oa, ca, fun w => ?_, H.out.1.fa, H.out.1.sa, by simp [pre], la, by simp [pre]⟩
          simp [Instr.index, asIntOf, u114, part, a44, z44]
        · refine ⟨rb, ob, cb, fun w => ?_, H.out.1.fb, H.out.1.sb, by simp [pre], lb, by simpa [pre, symsOf] using la⟩
          simp [Instr.index, asIntOf, u114, part, a44, z44]
      obtain ⟨R, oR, cR, hidx, hR, hS, hpre, hl, hp⟩ := P
      have K : Aside (RowsAt w3 (.slice oR R.length cR) R ∧ (∀ r ∈ R, SitesAt w3 r.2.1 r.2.2) ∧ pre ra rb (i + 1) = pre ra rb i ++ symsOf R ∧ R.length ≤ 100 ∧ (pre ra rb i).length ≤ 100) := ⟨hR, hS, hpre, hl, hp⟩
      clear hR hS hpre hp
      go_wp2_with fail
      go_loopg [5, 26] R.length (fun g s5 s26 wr => ∃ (kk : Nat) (v : Value), kk ≤ R.length ∧ R.length - kk ≤ g ∧ v = s5 ∧ s26 = .int .i64 kk ∧ Aside (Stand w3 N wr v (touched ra rb (pre ra rb i ++ (symsOf R).take kk))))
      case atStart => exact ⟨0, _, by omega, by omega, rfl, rfl, by rw [List.take_zero, List.append_nil]; exact A.out⟩
      case round =>
        clear A hidx
        obtain ⟨kk, v, hkk, hg2, rfl, rfl, A⟩ := hrel
        by_cases hlt2 : kk < R.length
        · have hltz2 : (kk : Int) < (R.length : Int) := by omega
          have hBl := A.out.below
          have hw3 : w3.heap.size = N := H.out.2.2
          obtain ⟨b, off, soa, sc, rfl, hbl, j4, _, j5, _, _⟩ := row_at (K.out.1.mono hBl (Nat.le_of_eq hw3)) (fun r hr => (K.out.2.1 r hr).mono hBl (Nat.le_of_eq hw3)) hlt2
          have r0 := j4.c0
          have r1 := j4.c1
          have r2 := j4.c2
          have r3 := j4.c3
          have r4 := j4.c4
          have T1 := touched_snoc ra rb (pre ra rb i ++ (symsOf R).take kk) R[kk]!.1
          have T2 := touched_len ra rb (pre ra rb i ++ (symsOf R).take kk)
          rw [List.append_assoc, ← take_syms R hlt2] at T1
          have T3 : (pre ra rb i ++ (symsOf R).take kk).length ≤ 200 := by
            have h1 := K.out.2.2.2.1
            have h2 := K.out.2.2.2.2
            rw [List.length_append, List.length_take]
            omega
          clear j4 hBl
          generalize hx : R[kk]! = x at *
          generalize x.2.2.length = sl at *
          generalize hto : touched ra rb (pre ra rb i ++ (symsOf R).take kk) = st at *
          obtain ⟨ks, out⟩ := st
          have T : Aside (touched ra rb (pre ra rb i ++ (symsOf R).take (kk + 1)) = touch ra rb (ks, out) x.1 ∧ out.length ≤ 200 ∧ Stand w3 N wr v (ks, out)) := ⟨T1, by simp only at T2; omega, A.out⟩
          clear T1 T2 T3 hto A hx
          have hB5 : Below wr.heap.size wr (wr.alloc (.cells (encSym x.1 ++ [Value.slice soa sl sc]).toArray 63)) := (Below.refl _ wr).alloc (Nat.le_refl _) _
          have ST := T.out.2.2.mono hB5
          have hlook := lookup_sym ST.map x.1
          have hY : SymCells (wr.alloc (.cells (encSym x.1 ++ [Value.slice soa sl sc]).toArray 63)) wr.heap.size 0 x.1 := SymCells.of fun i u hu => by
            have := World.cell?_alloc_mark wr (encSym x.1 ++ [Value.slice soa sl sc]).toArray 63 (0, 0) i
            rw [Nat.zero_add, this]
            rw [List.getElem?_toArray, List.getElem?_append_left (List.getElem?_eq_some_iff.1 hu).1]; exact hu
          have SA : Aside (Stand w3 N (wr.alloc (.cells (encSym x.1 ++ [Value.slice soa sl sc]).toArray 63)) v (ks, out) ∧ SymCells (wr.alloc (.cells (encSym x.1 ++ [Value.slice soa sl sc]).toArray 63)) wr.heap.size 0 x.1 ∧ N < wr.heap.size) := ⟨ST, hY, T.out.2.2.map.lt⟩
          clear ST hY hB5
          simp only [encS, encSym, List.cons_append, List.nil_append] at hlook
          cases hold : seenIn ks x.1 with
          | true =>
            rw [hold] at hlook
            go_wp2
            go_roundg (R.length - (kk + 1))
            case measure => omega
            case rel =>
              refine ⟨kk + 1, v, by omega, by omega, rfl, by go_num, (show Aside _ from ?_)⟩
              rw [T.out.1, touch, if_pos hold]
              exact SA.out.1
          | false =>
            rw [hold] at hlook
            obtain ⟨w6, hupd, ST6, hk6⟩ := SA.out.1.update x.1 hold
            have hY6 : SymCells w6 wr.heap.size 0 x.1 := SA.out.2.1.same (hk6 _ (by have := SA.out.2.2; omega))
            have T6 : Two w6 w.heap.size (.slice oa ra.length ca) (.slice ob rb.length cb) ra rb := H.out.1.mono ST6.below (Nat.le_of_eq H.out.2.2)
            have S6 : Aside (Mid w3 N w.heap.size (.slice oa ra.length ca) (.slice ob rb.length cb) ra rb wr.heap.size x.1 w6 v (ks ++ [x.1], out)) := ⟨ST6, hY6, T6⟩
            simp only [encS, encSym, List.cons_append, List.nil_append] at hupd
            clear ST6 hY6 T6 hk6 SA
            have k1 := S6.out.two.xa
            have y0 := S6.out.sym.c0
            have y1 := S6.out.sym.c1
            have y2 := S6.out.sym.c2
            have y3 := S6.out.sym.c3
            have y4 := S6.out.sym.c4
            go_wp2_with fail
            generalize wr.heap.size = hr at *
            clear hupd hlook j5 r0 r1 r2 r3 r4 k1 y0 y1 y2 y3 y4
            refine (ixFind x.1 _ ra w6 S6.out.two.fa fun r hr => ⟨S6.out.two.sa r hr, H5.out.1 r hr⟩).mono fun e w7 he => ?_
            obtain ⟨hfd, hb7⟩ := he
            obtain ⟨fa, rfl, hfa⟩ := found_one hfd
            have S7 : Aside (Mid w3 N w.heap.size (.slice oa ra.length ca) (.slice ob rb.length cb) ra rb hr x.1 w7 v (ks ++ [x.1], out) ∧ SitesAt w7 fa (sitesOf ra x.1)) := ⟨S6.out.mono hb7, hfa⟩
            clear hfd hfa hb7 S6
            have k1 := S7.out.1.two.xb
            have y0 := S7.out.1.sym.c0
            have y1 := S7.out.1.sym.c1
            have y2 := S7.out.1.sym.c2
            have y3 := S7.out.1.sym.c3
            have y4 := S7.out.1.sym.c4
            generalize hha : hasSym ra x.1 = ha at *
            go_wp2_with fail
            clear k1 y0 y1 y2 y3 y4
            refine (ixFind x.1 _ rb w7 S7.out.1.two.fb fun r hr => ⟨S7.out.1.two.sb r hr, H5.out.2 r hr⟩).mono fun e w8 he => ?_
            obtain ⟨hfd, hb8⟩ := he
            obtain ⟨fb, rfl, hfb⟩ := found_one hfd
            have S8 : Aside (Mid w3 N w.heap.size (.slice oa ra.length ca) (.slice ob rb.length cb) ra rb hr x.1 w8 v (ks ++ [x.1], out) ∧ SitesAt w8 fa (sitesOf ra x.1) ∧ SitesAt w8 fb (sitesOf rb x.1)) := ⟨S7.out.1.mono hb8, S7.out.2.mono hb8 (Nat.le_refl _), hfb⟩
            clear hfd hfb hb8 S7
            generalize hhb : hasSym rb x.1 = hb at *
            have D : Aside (diff ra rb x.1 = ((ha != hb) || !(Lib.allEq siteEq (sitesOf ra x.1) (sitesOf rb x.1)))) := by rw [← hha, ← hhb]; rfl
            clear hha hhb
            by_cases hab : ha = hb
            · subst hab
              generalize errOf ha = za at *
              go_wp2_with fail
              refine (equal_sites _ _ _ _ _ S8.out.2.1 S8.out.2.2).mono fun e w9 he => ?_
              obtain ⟨rfl, q, rfl⟩ := he
              have S9 : Aside (Mid w3 N w.heap.size (.slice oa ra.length ca) (.slice ob rb.length cb) ra rb hr x.1 (w8.drewN q) v (ks ++ [x.1], out)) := S8.out.1.mono (below_drewN_q (Below.refl _ _) q)
              have D1 : diff ra rb x.1 = !(Lib.allEq siteEq (sitesOf ra x.1) (sitesOf rb x.1)) := by rw [D.out]; simp
              have D2 : Aside (diff ra rb x.1 = !(Lib.allEq siteEq (sitesOf ra x.1) (sitesOf rb x.1))) := D1
              clear D1
              clear S8 D
              generalize Lib.allEq siteEq (sitesOf ra x.1) (sitesOf rb x.1) = bb at *
              generalize w8.drewN q = w9 at *
              cases bb with
              | true =>
                go_wp2
                go_roundg (R.length - (kk + 1))
                case measure => omega
                case rel =>
                  refine ⟨kk + 1, v, by omega, by omega, rfl, by go_num, (show Aside _ from ?_)⟩
                  rw [T.out.1, touch, if_neg (by rw [hold]; decide), if_neg (by rw [D2.out]; decide)]
                  exact S9.out.stand
              | false =>
                have y0 := S9.out.sym.c0
                have y1 := S9.out.sym.c1
                have y2 := S9.out.sym.c2
                have y3 := S9.out.sym.c3
                have y4 := S9.out.sym.c4
                have hB10 : Below w9.heap.size w9 (w9.alloc (.cells (encSym x.1).toArray 50)) := (Below.refl _ w9).alloc (Nat.le_refl _) _
                obtain ⟨v', w10, happ, ST10⟩ := (S9.out.stand.mono hB10).push (by have := T.out.2.1; omega) x.1 (SymCells.new w9 x.1 50) 1 72
                have S10 : Aside (Stand w3 N w10 v' (ks ++ [x.1], out ++ [x.1])) := ST10
                clear hB10 ST10
                simp only [encSym] at happ
                go_wp2_with (at_builtin; refine wpList_append_run _ rfl _ _ 72 rfl _ _ _ _ rfl rfl happ ?_)
                go_roundg (R.length - (kk + 1))
                case measure => omega
                case rel =>
                  refine ⟨kk + 1, v', by omega, by omega, rfl, by go_num, (show Aside _ from ?_)⟩
                  rw [T.out.1, touch, if_neg (by rw [hold]; decide), if_pos (by rw [D2.out]; rfl)]
                  exact S10.out
            · have hz : ¬ errOf ha = errOf hb := by revert hab; cases ha <;> cases hb <;> simp [errOf]
              have D1 : diff ra rb x.1 = true := by rw [D.out]; revert hab; cases ha <;> cases hb <;> simp
              have D2 : Aside (diff ra rb x.1 = true) := D1
              clear D hab D1
              generalize errOf ha = za at *
              generalize errOf hb = zb at *
              have y0 := S8.out.1.sym.c0
              have y1 := S8.out.1.sym.c1
              have y2 := S8.out.1.sym.c2
              have y3 := S8.out.1.sym.c3
              have y4 := S8.out.1.sym.c4
              have hB10 : Below w8.heap.size w8 (w8.alloc (.cells (encSym x.1).toArray 50)) := (Below.refl _ w8).alloc (Nat.le_refl _) _
              obtain ⟨v', w10, happ, ST10⟩ := (S8.out.1.stand.mono hB10).push (by have := T.out.2.1; omega) x.1 (SymCells.new w8 x.1 50) 1 72
              have S10 : Aside (Stand w3 N w10 v' (ks ++ [x.1], out ++ [x.1])) := ST10
              clear hB10 ST10
              simp only [encSym] at happ
              go_wp2_with (at_builtin; refine wpList_append_run _ rfl _ _ 72 rfl _ _ _ _ rfl rfl happ ?_)
              go_roundg (R.length - (kk + 1))
              case measure => omega
              case rel =>
                refine ⟨kk + 1, v', by omega, by omega, rfl, by go_num, (show Aside _ from ?_)⟩
                rw [T.out.1, touch, if_neg (by rw [hold]; decide), if_pos D2.out]
                exact S10.out
        · have hltz2 : ¬ (kk : Int) < (R.length : Int) := by omega
          have : kk = R.length := by omega
          subst this
          go_wp2
          go_roundg (2 - (i + 1))
          case measure => omega
          case rel =>
            refine ⟨i + 1, v, by omega, by omega, rfl, by go_num, (show Aside _ from ?_)⟩
            have e : (symsOf R).take R.length = symsOf R := List.take_of_length_le (by simp [symsOf])
            rw [K.out.2.2.1, ← e]
            exact A.out
    · have hltz : ¬ (i : Int) < 2 := by omega
      have : i = 2 := by omega
      subst this
      go_wp2
      go_ret
      exact ⟨_, rfl, OwnSyms.syms A.out.own, H.out.2.1.trans (A.out.below.mono (by have := H.out.2.2; have := H.out.2.1.size; omega))⟩
end Go.Proofs.YtfgefjpgmfjmjaaGreatDoor
