/- A map keyed by symbols; rows of symbols of the call's own. -/
import Derived.Test.YtfgefjpgmfjmjaaGreatDoorIxEqual
import Derived.Test.YtfgefjpgmfjmjaaGreatDoorAbsMap
namespace Go.Proofs.YtfgefjpgmfjmjaaGreatDoor
open Go Go.RowKit Go.Shelf Go.Lib

theorem symEq_comm (x y : Sym) : symEq x y = symEq y x := by
  cases h : symEq y x with
  | true => rw [symEq_iff] at h; subst h; exact (symEq_iff _ _).2 rfl
  | false =>
    cases h' : symEq x y with
    | true => rw [symEq_iff] at h'; subst h'; rw [(symEq_iff _ _).2 rfl] at h; cases h
    | false => rfl

def encS (s : Sym) : Value := .agg #[.string s.1, .string s.2.1, .string s.2.2.1, .int .i64 s.2.2.2.1, .string s.2.2.2.2]
theorem equal_sym (x y : Sym) (w : World) : (Op.equal 50 (encS x) (encS y)).run Tryz.prog w = .ok (symEq x y) w := run_eq_sym x y w

/-- Entries of which each bears a symbol and 'true'. -/
inductive Keys : List Sym → List MapEntry → Prop where
  | nil : Keys [] []
  | cons {k : Sym} {m : MapEntry} {ks : List Sym} {ms : List MapEntry} (h : m.key = encS k ∧ m.val = .bool true) (t : Keys ks ms) : Keys (k :: ks) (m :: ms)
theorem Keys.snoc {ks : List Sym} {ms : List MapEntry} (h : Keys ks ms) {k : Sym} {m : MapEntry} (hm : m.key = encS k ∧ m.val = .bool true) : Keys (ks ++ [k]) (ms ++ [m]) := by
  induction h with
  | nil => exact .cons hm .nil
  | cons h _ ih => exact .cons h ih

def seenIn (ks : List Sym) (s : Sym) : Bool := ks.any fun k => symEq k s

theorem ask_keys (s : Sym) (w : World) : ∀ {ks : List Sym} {ms : List MapEntry}, Keys ks ms → ∀ i, ∃ r, (Instr.findAsking 50 (encS s) ms i).run Tryz.prog w = .ok r w ∧ (seenIn ks s = true → ∃ j, r = some (j, .bool true)) ∧ (seenIn ks s = false → r = none) := by
  intro ks ms h
  induction h with
  | nil => intro i; exact ⟨none, by simp [Instr.findAsking], fun h => by simp [seenIn] at h, fun _ => rfl⟩
  | @cons k m ks ms hm t ih =>
    intro i
    obtain ⟨hk, hv⟩ := hm
    have he : (Op.equal 50 (encS s) m.key).run Tryz.prog w = .ok (symEq s k) w := by rw [hk]; exact equal_sym s k w
    cases hq : symEq s k with
    | true =>
      rw [hq] at he
      refine ⟨some (i, m.val), by simp [Instr.findAsking, he], fun _ => ⟨i, by rw [hv]⟩, fun h => ?_⟩
      simp only [seenIn, List.any_cons, Bool.or_eq_false_iff] at h
      rw [symEq_comm, hq] at h
      cases h.1
    | false =>
      rw [hq] at he
      obtain ⟨r, hr, h1, h2⟩ := ih (i + 1)
      have e : seenIn (k :: ks) s = seenIn ks s := by
        simp only [seenIn, List.any_cons]
        rw [symEq_comm, hq, Bool.false_or]
      exact ⟨r, by simp [Instr.findAsking, he, hr], fun h => h1 (by rw [← e]; exact h), fun h => h2 (by rw [← e]; exact h)⟩

theorem find_keys (s : Sym) (w : World) {ks : List Sym} {ms : List MapEntry} (h : Keys ks ms) : ∃ r, (Instr.findKey 50 (encS s) ms).run Tryz.prog w = .ok r w ∧ (seenIn ks s = true → ∃ j, r = some (j, .bool true)) ∧ (seenIn ks s = false → r = none) := by
  obtain ⟨r, hr, h1, h2⟩ := ask_keys s w h 0
  have hu := run_underlying Tryz.underlying50 w
  cases h with
  | nil =>
    refine ⟨none, ?_, fun h => by simp [seenIn] at h, fun _ => rfl⟩
    simp [Instr.findKey, hu, Instr.findNow]
  | @cons k m ks ms hm t =>
    refine ⟨r, ?_, h1, h2⟩
    have hn : ∀ x, Instr.findNow (.struct x) (encS s) (m :: ms) 0 = none := by
      intro x
      simp only [Instr.findNow, Instr.sameNow]
    simp only [Instr.findKey, Sem.run_bind, hu, Result.andThen_ok, hn]
    exact hr

theorem check_sym (s : Sym) (b : Bool) (w : World) : (Instr.checkKey b 10000 50 (encS s)).run Tryz.prog w = .ok () w := by
  have u3 := Tryz.underlying3
  have a3 := Tryz.isAgg3
  have z3 := Tryz.sizeOf3
  have u9 := Tryz.underlying9
  have a9 := Tryz.isAgg9
  have z9 := Tryz.sizeOf9
  have hu := run_underlying Tryz.underlying50
  have hu3 := run_underlying Tryz.underlying3
  have hu9 := run_underlying Tryz.underlying9
  have c3 : ∀ (n : Nat) (v : Value) (w : World), (Instr.checkKey b (n + 1) 3 v).run Tryz.prog w = .ok () w := fun n v w => by
    simp only [Instr.checkKey, Sem.run_bind, hu3, Result.andThen_ok]
    rfl
  have c9 : ∀ (n : Nat) (v : Value) (w : World), (Instr.checkKey b (n + 1) 9 v).run Tryz.prog w = .ok () w := fun n v w => by
    simp only [Instr.checkKey, Sem.run_bind, hu9, Result.andThen_ok]
    rfl
  obtain ⟨n, hn⟩ : ∃ n, 10000 = n + 1 + 1 := ⟨9998, rfl⟩
  rw [hn]
  clear hn
  rw [Instr.checkKey]
  simp only [encS, Sem.run_bind, hu, Result.andThen_ok]
  rw [← Array.forIn_toList]
  simp [part, a3, a9, z3, z9, c3, c9]

/-- The map's keys are these symbols. -/
def MapAt (w : World) (N : Nat) (ks : List Sym) : Prop := ∃ ms clock, w.heap[N]? = some (.map ms clock) ∧ Keys ks ms.toList

theorem lookup_sym {w : World} {N : Nat} {ks : List Sym} (h : MapAt w N ks) (s : Sym) : (Instr.lookup 113 (.map (some N)) (encS s) false).run Tryz.prog w = .ok (.bool (seenIn ks s)) w := by
  obtain ⟨ms, clock, hN, hk⟩ := h
  obtain ⟨r, hr, h1, h2⟩ := find_keys s w hk
  have hu := run_underlying Tryz.underlying113 w
  have hg := Go.Abs.getObj_run (P := Tryz.prog) hN (by intro _ _ _ h; cases h)
  have hz : (zeroValue 4).run Tryz.prog w = .ok (.bool false) w := Tryz.zeroValue4 w
  cases hs : seenIn ks s with
  | true =>
    obtain ⟨j, rfl⟩ := h1 hs
    simp [Instr.lookup, hu, hg, check_sym, hr]
  | false =>
    rw [h2 hs] at hr
    simp [Instr.lookup, hu, hg, check_sym, hr, hz]

theorem update_sym {w : World} {N : Nat} {ks : List Sym} (h : MapAt w N ks) (s : Sym) (hs : seenIn ks s = false) :
    ∃ w', (Instr.mapUpdate 113 (.map (some N)) (encS s) (.bool true)).run Tryz.prog w = .ok () w' ∧ MapAt w' N (ks ++ [s]) ∧ Below N w w' ∧ ∀ k, k ≠ N → w'.heap[k]? = w.heap[k]? := by
  obtain ⟨ms, clock, hN, hk⟩ := h
  obtain ⟨r, hr, h1, h2⟩ := find_keys s w hk
  rw [h2 hs] at hr
  have hu := run_underlying Tryz.underlying113 w
  have hg := Go.Abs.getObj_run (P := Tryz.prog) hN (by intro _ _ _ h; cases h)
  have hset : ∀ o, (setObj N o).run Tryz.prog w = .ok () { w with heap := w.heap.setIfInBounds N o } := fun o => Go.Abs.setObj_run hN (by intro _ _ _ h; cases h)
  refine ⟨{ w with heap := w.heap.setIfInBounds N (.map (ms.push { key := encS s, val := .bool true, born := clock }) (clock + 1)) }, ?_, ⟨ms.push { key := encS s, val := .bool true, born := clock }, clock + 1, ?_, ?_⟩, ⟨rfl, rfl, rfl, by simp, fun k hk => ?_⟩, fun k hk => ?_⟩
  · simp [Instr.mapUpdate, hu, hg, check_sym, hr, hset]
  · have hlt := (Array.getElem?_eq_some_iff.1 hN).1
    simp [hlt]
  · rw [Array.toList_push]; exact hk.snoc ⟨rfl, rfl⟩
  · show (w.heap.setIfInBounds N _)[k]? = _
    rw [Array.getElem?_setIfInBounds_ne (by omega)]
  · show (w.heap.setIfInBounds N _)[k]? = _
    rw [Array.getElem?_setIfInBounds_ne (by omega)]

theorem MapAt.mono {w w' : World} {N B : Nat} {ks : List Sym} (h : MapAt w N ks) (hB : Below B w w') (hN : N < B) : MapAt w' N ks := by
  obtain ⟨ms, clock, h1, h2⟩ := h
  exact ⟨ms, clock, (hB.block N hN).trans h1, h2⟩
theorem MapAt.lt {w : World} {N : Nat} {ks : List Sym} (h : MapAt w N ks) : N < w.heap.size := by
  obtain ⟨ms, clock, h1, h2⟩ := h
  exact (Array.getElem?_eq_some_iff.1 h1).1

/-! Rows of symbols -/

theorem symLen (x : Sym) : (encSym x).length = 5 := rfl
abbrev OwnSyms (w : World) (B : Nat) (v : Value) (l : List Sym) : Prop := w.ownsRow B 50 5 v l.length (l.flatMap encSym)

theorem OwnSyms.keep {w w' : World} {B : Nat} {v : Value} {l : List Sym} (h : OwnSyms w B v l) (hk : ∀ g, v.ownBlock = some g → w'.heap[g]? = w.heap[g]?) : OwnSyms w' B v l := by
  obtain ⟨h1, h | ⟨g, cap, cur, rfl, hb, hg, hr⟩⟩ := h
  · exact ⟨h1, .inl h⟩
  · exact ⟨h1, .inr ⟨g, cap, cur, rfl, hb, (hk g rfl).trans hg, hr⟩⟩
theorem OwnSyms.lt {w : World} {B : Nat} {v : Value} {l : List Sym} (h : OwnSyms w B v l) {g : Nat} (hg : v.ownBlock = some g) : B ≤ g ∧ g < w.heap.size := World.ownsRow.lt h g hg
theorem OwnSyms.mono {w w' : World} {B B' : Nat} {v : Value} {l : List Sym} (h : OwnSyms w B v l) (hB : Below B' w w') (hw : w.heap.size ≤ B') : OwnSyms w' B v l :=
  h.keep fun g hg => hB.block g (by have := (h.lt hg).2; omega)
/-- The row of a slice that owns symbols is a row. -/
theorem OwnSyms.row {w : World} {B : Nat} {v : Value} {l : List Sym} (h : OwnSyms w B v l) {g : Nat} (hg : v.ownBlock = some g) : ∃ c e f, w.heap[g]? = some (.cells c e f) := by
  obtain ⟨h1, ⟨rfl, _⟩ | ⟨g', cap, cur, rfl, hb, hr, _⟩⟩ := h
  · cases hg
  · cases hg; exact ⟨_, _, _, hr⟩

/-- Symbols in memory. -/
def SymsAt (w : World) (v : Value) (l : List Sym) : Prop :=
  ∃ oa c, v = .slice oa l.length c ∧ l.length ≤ maxLen ∧ (0 < l.length → ∃ b off, oa = some ⟨b, off, none⟩ ∧ ∀ j, j < l.length → SymCells w b (off + j * 5) l[j]!)
theorem OwnSyms.syms {w : World} {B : Nat} {v : Value} {l : List Sym} (h : OwnSyms w B v l) : SymsAt w v l := by
  obtain ⟨hx, h | h⟩ := h
  · obtain ⟨rfl, hn⟩ := h
    exact ⟨none, 0, by rw [hn], by rw [hn]; exact Nat.zero_le _, fun h => by omega⟩
  · obtain ⟨g, cap, cur, rfl, hb, hg, hc, hm, hs, ht⟩ := h
    refine ⟨_, _, rfl, Nat.le_trans hc hm, fun h0 => ⟨g, 0, rfl, fun j hj => SymCells.of fun i u hu => ?_⟩⟩
    have hi : i < 5 := by have := (List.getElem?_eq_some_iff.1 hu).1; rw [symLen] at this; exact this
    rw [← flat_get symLen l j hj i hi, ← ht, List.getElem?_take_of_lt (by omega)] at hu
    simp only [World.cell?, hg]
    simpa using hu
theorem SymsAt.mono {B : Nat} {w w' : World} {v : Value} {l : List Sym} (h : SymsAt w v l) (hB : Below B w w') (hw : w.heap.size ≤ B) : SymsAt w' v l := by
  obtain ⟨oa, c, e, hm, hc⟩ := h
  refine ⟨oa, c, e, hm, fun h0 => ?_⟩
  obtain ⟨b, off, e, hx⟩ := hc h0
  exact ⟨b, off, e, fun j hj => (hx j hj).mono hB (by have := (hx j hj).block; omega)⟩

theorem oneCell_sym {l : List Sym} : ∀ u ∈ l.flatMap encSym, u.oneCell' = true := by
  intro u hu
  obtain ⟨x, _, hx⟩ := List.mem_flatMap.1 hu
  simp [encSym] at hx
  rcases hx with rfl | rfl | rfl | rfl | rfl <;> rfl

/-- One symbol more. -/
theorem push_sym {w : World} {B : Nat} {v : Value} {l : List Sym} (h : OwnSyms w B v l) (hB : B ≤ w.heap.size) (hl : l.length ≤ 400) (s : Sym) {b : Nat} (hs : SymCells w b 0 s) (c ty : Nat) :
    ∃ v' w', (Builtin.append_ #[72, 72] ty #[v, .slice (some ⟨b, 0, none⟩) 1 c]).run Tryz.prog w = .ok v' w' ∧ OwnSyms w' B v' (l ++ [s]) ∧ w.grownBy w' v.ownBlock ∧ ∀ g, v'.ownBlock = some g → v.ownBlock = some g ∨ w.heap.size ≤ g := by
  have hnews : ∀ j u, (encSym s)[j]? = some u → w.cell? ((⟨b, 0, none⟩ : Addr).add j) = some u := by
    intro j u hu
    rw [Addr.add_lit, Nat.zero_add]
    have hj : j < 5 := by have := (List.getElem?_eq_some_iff.1 hu).1; rw [symLen] at this; exact this
    match j, hj with
    | 0, _ => cases hu; exact hs.c0
    | 1, _ => cases hu; simpa using hs.c1
    | 2, _ => cases hu; simpa using hs.c2
    | 3, _ => cases hu; simpa using hs.c3
    | 4, _ => cases hu; simpa using hs.c4
  have hone : ∀ u ∈ encSym s, u.oneCell' = true := fun u hu => oneCell_sym (l := [s]) u (by simpa using hu)
  have hi : Tryz.prog.info? 50 = some Tryz.t50 := by kernel_rfl
  have hz : Tryz.t50.zero = some (encS zeroSym) := by kernel_rfl
  have h5 : Tryz.t50.size = 5 := by kernel_rfl
  have hby : Tryz.t50.bytes = 72 := by kernel_rfl
  have main : ∀ B' v l, OwnSyms w B' v l → B' ≤ w.heap.size → l.length ≤ 400 → ∃ v' w', (Builtin.append_ #[72, 72] ty #[v, .slice (some ⟨b, 0, none⟩) 1 c]).run Tryz.prog w = .ok v' w' ∧ OwnSyms w' B' v' (l ++ [s]) ∧ w.grownBy w' v.ownBlock := by
    intro B' v l h hB hl
    obtain ⟨v', w', h1, h2, h3, _⟩ := run_append_own (P := Tryz.prog) w B' 72 ty 50 Tryz.t50 (encS zeroSym) 5 72 Tryz.underlying72 hi hz h5 hby rfl (by decide) v l.length (l.flatMap encSym) h ⟨b, 0, none⟩ 1 c (encSym s) (by simp [symLen]) hnews hone
      (by unfold maxLen; omega) (by omega) hB
    refine ⟨v', w', h1, ?_, h3⟩
    have e : (l ++ [s]).flatMap encSym = l.flatMap encSym ++ encSym s := by simp
    unfold OwnSyms
    rw [e, List.length_append]
    exact h2
  obtain ⟨v', w', h1, h2, h3⟩ := main B v l h hB hl
  refine ⟨v', w', h1, h2, h3, ?_⟩
  have h0 := h
  obtain ⟨hx, ⟨rfl, hn⟩ | ⟨g, cap, cur, rfl, hb, hg, hc, hm, hsz, ht⟩⟩ := h
  · obtain ⟨v2, w2, k1, k2, _⟩ := main w.heap.size _ l ⟨hx, .inl ⟨rfl, hn⟩⟩ (Nat.le_refl _) hl
    rw [h1] at k1
    cases k1
    exact fun g hg => .inr (OwnSyms.lt k2 hg).1
  · rcases Nat.lt_or_ge cap (l.length + 1) with hcap | hcap
    · have holds : ∀ j u, (l.flatMap encSym)[j]? = some u → w.cell? ((⟨g, 0, none⟩ : Addr).add j) = some u := by
        intro j u hu
        rw [Addr.add_lit, Nat.zero_add]
        rw [← ht] at hu
        have hj : j < l.length * 5 := by
          have := (List.getElem?_eq_some_iff.1 hu).1
          rw [List.length_take] at this
          omega
        rw [List.getElem?_take_of_lt hj] at hu
        simp only [World.cell?, hg]
        simpa using hu
      obtain ⟨v2, w2, k1, k2, _⟩ := run_append_arg_grows (P := Tryz.prog) w 72 ty 50 Tryz.t50 (encS zeroSym) 5 72 Tryz.underlying72 hi hz h5 hby rfl (by decide) ⟨g, 0, none⟩ l.length cap (l.flatMap encSym) hx holds ⟨b, 0, none⟩ 1 c (encSym s) (by simp [symLen]) hnews hcap (by unfold maxLen; omega) (by omega)
      rw [h1] at k1
      cases k1
      exact fun g' hg' => .inr (World.ownsRow.lt k2 g' hg').1
    · have k1 := run_append_room_cells (P := Tryz.prog) w 72 ty 50 Tryz.t50 Tryz.underlying72 hi g 0 l.length cap ⟨b, 0, none⟩ 1 c (encSym s) (by simp [symLen, h5]) hnews hone hcap
        (by
          intro j hj
          rw [symLen] at hj
          rw [h5, Nat.zero_add]
          simp only [World.cell?, hg]
          have : l.length * 5 + j < cur.size := by
            have : (l.length + 1) * 5 ≤ cap * 5 := Nat.mul_le_mul_right 5 hcap
            omega
          simp [this])
        (by
          intro j hj
          simp only [World.frozen?, hg]
          simp)
      rw [h1] at k1
      cases k1
      exact fun g' hg' => .inl hg'
end Go.Proofs.YtfgefjpgmfjmjaaGreatDoor
