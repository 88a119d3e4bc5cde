/- Operations on memory. -/
import Derived.Test.YtfgefjpgmfjmjaaGreatDoorAbsPure
namespace Go.Abs
open Go.RowKit (Below)

section
variable {T : Tabs} {P : Program} {B : Nat} {Q : List Nat} {w₀ w : World} {φ : Inj} {A A' : AHeap}

/-- It gives a value, and the heap becomes another one. -/
def Gives (P : Program) (B : Nat) (w₀ : World) (Q : List Nat) (φ : Inj) (w : World) (A' : AHeap) (a : AV) (s : Sem Value) : Prop :=
  ∃ φ' v w', s.run P w = .ok v w' ∧ φ.le φ' ∧ Rel B w₀ Q φ' A' w' ∧ VRel φ' a v
def GivesU (P : Program) (B : Nat) (w₀ : World) (Q : List Nat) (φ : Inj) (w : World) (A' : AHeap) (s : Sem Unit) : Prop :=
  ∃ φ' w', s.run P w = .ok () w' ∧ φ.le φ' ∧ Rel B w₀ Q φ' A' w'
theorem Computes.gives {a : AV} {s : Sem Value} (h : Computes P φ w a s) (R : Rel B w₀ Q φ A w) : Gives P B w₀ Q φ w A a s := by
  obtain ⟨v, hv, hr⟩ := h
  exact ⟨φ, v, w, hv, φ.le_refl, R, hr⟩

/-! Loading and storing -/

theorem loadVar_run (H : T.Ok P) (R : Rel B w₀ Q φ A w) {t : TypeId} {b o : Nat} {x' : Value} {v : AV} (h : loadVar T A t b o = some v) (hx : VRel φ (.ptr b o) x') : Computes P φ w v (Instr.loadAt t x') := by
  simp only [VRel] at hx
  obtain ⟨N, d, off, f, e, rfl⟩ := hx
  unfold loadVar at h
  split at h
  · rename_i ha
    split at h
    · rename_i n hn
      split at h
      · rename_i l hl
        cases h
        obtain ⟨l', hr, hrun⟩ := cells_run (P := P) R f e hl
        refine ⟨.agg l'.toArray, ?_, by simp only [VRel]; exact ⟨_, rfl, by simpa using hr⟩⟩
        simp [Instr.loadAt, Instr.sureAddr, Go.loadVar, H.run_agg ha, H.run_size hn, hrun]
      · cases h
    · cases h
  · rename_i ha
    obtain ⟨v', hr, hrun⟩ := cell_run (P := P) R f e h
    refine ⟨v', ?_, hr⟩
    simp only [Instr.loadAt, Instr.sureAddr, Go.loadVar, Sem.run_bind, Sem.run_pure, Result.andThen_ok, H.run_agg ha, Bool.false_eq_true, if_false]
    exact hrun
  · cases h

theorem one_known {v : AV} (h : v.one = true) : v ≠ .any := by rintro rfl; cases h
theorem allOne_known {a : AV} (h : allOne a.cells = true) : a ≠ .any := by rintro rfl; cases h

theorem store_allOne {b o : Nat} {vs : List AV} (h : A.store b o vs = some A') : allOne vs = true := by
  obtain ⟨objs, next, cls⟩ := A
  simp only [AHeap.store] at h
  split at h
  · rename_i c lo hi cells elem hg
    cases h1 : Nat.ble lo o with
    | false => rw [h1] at h; cases h
    | true =>
      cases h2 : Nat.ble (Nat.add o vs.length) hi with
      | false => rw [h1, h2] at h; cases h
      | true =>
        cases h3 : allOne vs with
        | false => rw [h1, h2, h3] at h; cases h
        | true => rfl
  · cases h

theorem storeVar_run (H : T.Ok P) (R : Rel B w₀ Q φ A w) {t : TypeId} {b o : Nat} {x' v' : Value} {v : AV} (h : storeVar T A t b o v = some A') (hx : VRel φ (.ptr b o) x') (hv : VRel φ v v') :
    GivesU P B w₀ Q φ w A' (Instr.storeAt t x' v') := by
  simp only [VRel] at hx
  obtain ⟨N, d, off, f, e, rfl⟩ := hx
  unfold storeVar at h
  split at h
  · rename_i n hn
    cases hb : Nat.beq v.cells.length n with
    | false => rw [hb] at h; cases h
    | true =>
      rw [hb] at h
      simp only [cond_true] at h
      have hlen := Nat.eq_of_beq_eq_true hb
      have hc := cells_rel hv (allOne_known (store_allOne h))
      obtain ⟨w', hw, R'⟩ := store_run (P := P) R h f e hc
      refine ⟨φ, w', ?_, φ.le_refl, R'⟩
      have hl := hc.length
      simp only [Array.length_toList] at hl
      have hsz : v'.cells.size = n := by omega
      simp only [Instr.storeAt, Instr.sureAddr, Go.storeVar, Sem.run_bind, Sem.run_pure, Result.andThen_ok, H.run_size hn, hsz, ne_eq, not_true_eq_false, if_false]
      exact hw
  · cases h

/-! New memory -/

theorem newRow_gives (R : Rel B w₀ Q φ A w) {elem : TypeId} {cs : List AV} {cs' : Array Value} {b : Nat} (h : LRel φ cs cs'.toList) (he : A.newRow elem cs = (b, A')) :
    (newRow elem cs').run P w = .ok ⟨w.heap.size, 0, none⟩ (w.alloc (.cells cs' elem)) ∧ φ.le (φ.put b (w.heap.size, 0) cs'.size) ∧ Rel B w₀ Q (φ.put b (w.heap.size, 0) cs'.size) A' (w.alloc (.cells cs' elem)) := by
  obtain ⟨h1, h2, h3⟩ := newRow_rel R (elem := elem) h
  rw [he] at h2 h3
  simp only at h2 h3
  subst h2
  exact ⟨by simp [newRow], h1, h3⟩

theorem put_ptr (φ : Inj) (b N n : Nat) : VRel (φ.put b (N, 0) n) (.ptr b 0) (.pointer (some ⟨N, 0, none⟩)) := by
  simp only [VRel]
  exact ⟨N, 0, 0, Inj.put_self _ _ _ _, rfl, rfl⟩

theorem exRow_run (R : Rel B w₀ Q φ A w) {elem : TypeId} {cs : List AV} {cs' : Array Value} {r : ARes} (h : exRow elem A cs = some (r, A')) (hc : LRel φ cs cs'.toList) :
    ∃ b, r = .val (.ptr b 0) ∧ Gives P B w₀ Q φ w A' (.ptr b 0) (do pure (.pointer (some (← newRow elem cs')))) := by
  unfold exRow at h
  cases ha : allOne cs with
  | false => rw [ha] at h; cases h
  | true =>
    rw [ha] at h
    simp only [cond_true] at h
    cases he : A.newRow elem cs with
    | mk b A₁ =>
      rw [he] at h
      cases h
      obtain ⟨h1, h2, h3⟩ := newRow_gives (P := P) R hc he
      exact ⟨b, rfl, _, _, _, by simp only [Sem.run_bind, h1, Result.andThen_ok, Sem.run_pure], h2, h3, put_ptr φ b _ _⟩

theorem exAlloc_run (H : T.Ok P) (R : Rel B w₀ Q φ A w) {elem : TypeId} {r : ARes} (h : exAlloc T A elem = some (r, A')) :
    ∃ b, r = .val (.ptr b 0) ∧ Gives P B w₀ Q φ w A' (.ptr b 0) (Instr.alloc elem true (.tuple #[])) := by
  unfold exAlloc at h
  split at h
  · rename_i z hz
    obtain ⟨v, hv, hr⟩ := H.run_zero (w := w) hz
    have hone : allOne z.cells = true := by
      unfold exRow at h
      cases ha : allOne z.cells with
      | false => rw [ha] at h; cases h
      | true => rfl
    obtain ⟨b, rfl, φ', x, w', hrun, hle, R', hx⟩ := exRow_run (P := P) R h (cells_rel (hr φ) (allOne_known hone))
    refine ⟨b, rfl, φ', x, w', ?_, hle, R', hx⟩
    rw [← hrun]
    simp [Instr.alloc, hv, newVar]
  · cases h

theorem exBox_run (R : Rel B w₀ Q φ A w) {ρ : Operand → Option AV} {elem : TypeId} {x : Operand} {x' : Value} {r : ARes} (h : exBox ρ A elem x = some (r, A')) (hx : ∀ v, ρ x = some v → VRel φ v x') :
    ∃ b, r = .val (.ptr b 0) ∧ Gives P B w₀ Q φ w A' (.ptr b 0) (Instr.box elem x') := by
  unfold exBox at h
  split at h
  · rename_i v hv
    have hone : allOne v.cells = true := by
      unfold exRow at h
      cases ha : allOne v.cells with
      | false => rw [ha] at h; cases h
      | true => rfl
    obtain ⟨b, rfl, φ', x, w', hrun, hle, R', hx⟩ := exRow_run (P := P) R h (cells_rel (hx v hv) (allOne_known hone))
    refine ⟨b, rfl, φ', x, w', ?_, hle, R', hx⟩
    rw [← hrun]
    simp [Instr.box, newVar]
  · cases h

/-! Structs and literals -/

theorem evalParts_rel {ρ : Operand → Option AV} {ρ' : Operand → Value} (hρ : ∀ x v, ρ x = some v → VRel φ v (ρ' x)) : ∀ {l : List (Nat × Operand)} {ps : List (Nat × AV)}, evalParts ρ l = some ps →
    PRel φ ps (l.map fun x => (x.1, ρ' x.2))
  | [], ps, h => by simp only [evalParts] at h; cases h; simp [PRel]
  | (i, x) :: r, ps, h => by
    simp only [evalParts] at h
    split at h
    · rename_i v hv
      split at h
      · rename_i l hl
        cases hk : v.known with
        | false => rw [hk] at h; cases h
        | true =>
          rw [hk] at h
          cases h
          simp only [PRel, List.map_cons]
          exact ⟨_, _, rfl, hρ x v hv, (by intro he; rw [he] at hk; cases hk), evalParts_rel hρ hl⟩
      · cases h
    · cases h

theorem fieldPlaces_run (H : T.Ok P) : ∀ {fs : List Field} {ps : List (Nat × Nat)}, fieldPlaces T fs = some ps →
    (fs.mapM (m := Sem) fun f => do pure (f.offset, ← sizeOf f.type)).run P w = .ok ps w
  | [], ps, h => by simp only [fieldPlaces] at h; cases h; simp
  | f :: r, ps, h => by
    simp only [fieldPlaces] at h
    split at h
    · rename_i n l hn hl
      cases h
      have := fieldPlaces_run H hl
      simp only [List.mapM_cons, Sem.run_bind, H.run_size hn, Result.andThen_ok, Sem.run_pure, this]
    · cases h

theorem toAV_known {v : Value} {a : AV} (h : toAV v = some a) : a ≠ .any := by
  rintro rfl
  unfold toAV at h
  split at h <;> first | (cases h; done) | (split at h <;> cases h)
theorem zero_known {t : TypeId} {z : AV} (h : T.zero t = some z) : z ≠ .any := by
  unfold Tabs.zero at h
  split at h
  · split at h
    · exact toAV_known h
    · cases h
  · cases h

theorem build_run (H : T.Ok P) {t : TypeId} {parts : List (Nat × AV)} {parts' : Array (Nat × Value)} {v : AV} (h : build T t parts = some v) (hp : PRel φ parts parts'.toList) :
    Computes P φ w v (Instr.build t parts') := by
  unfold build at h
  split at h
  · rename_i z fields hz hu
    split at h
    · rename_i ps hps
      split at h
      · rename_i cs hcs
        cases h
        obtain ⟨zv, hzv, hzr⟩ := H.run_zero (w := w) hz
        have hf := fieldPlaces_run H (w := w) hps
        have hfill : fill (fun i => ps.toArray[i]?) z.cells parts = some cs := by
          rw [← hcs]; congr 1; funext i; rw [nth_eq]; simp
        obtain ⟨out, ho, hr⟩ := fill_run (place := fun i => ps.toArray[i]?) hp (cells_rel (hzr φ) (zero_known hz)) hfill
        refine ⟨.agg out, ?_, by simp only [VRel]; exact ⟨_, rfl, hr⟩⟩
        simp only [Instr.build, Sem.run_bind, hzv, Result.andThen_ok, H.run_und hu, Array.mapM_eq_mapM_toList, Sem.run_map, hf, ho, Sem.run_pure]
      · cases h
    · cases h
  · rename_i z n elem hz hu
    split at h
    · rename_i m hm
      split at h
      · rename_i cs hcs
        cases h
        obtain ⟨zv, hzv, hzr⟩ := H.run_zero (w := w) hz
        obtain ⟨out, ho, hr⟩ := fill_run hp (cells_rel (hzr φ) (zero_known hz)) hcs
        refine ⟨.agg out, ?_, by simp only [VRel]; exact ⟨_, rfl, hr⟩⟩
        simp only [Instr.build, Sem.run_bind, hzv, Result.andThen_ok, H.run_und hu, H.run_size hm, ho, Sem.run_pure]
      · cases h
    · cases h
  · cases h

theorem repeated_length (n : Nat) (l : List AV) : (repeated n l).length = n * l.length := by
  induction n with
  | zero => simp [repeated]
  | succ n ih => simp only [repeated, List.length_append, ih, Nat.succ_mul]; omega

theorem LRel_of_get : ∀ {l : List AV} {l' : List Value}, l.length = l'.length → (∀ (i : Nat) (a : AV), l[i]? = some a → ∃ v, l'[i]? = some v ∧ VRel φ a v) → LRel φ l l'
  | [], [], _, _ => by simp only [LRel]
  | [], _ :: _, h, _ => by simp at h
  | _ :: _, [], h, _ => by simp at h
  | a :: l, v :: l', h, hg => by
    simp only [LRel]
    obtain ⟨u, hu, hr⟩ := hg 0 a rfl
    simp at hu; subst hu
    exact ⟨_, _, rfl, hr, LRel_of_get (by simpa using h) fun i b hb => by simpa using hg (i + 1) b (by simpa using hb)⟩

theorem repeated_get (l : List AV) : ∀ (n i : Nat), i < n * l.length → (repeated n l)[i]? = l[i % l.length]?
  | 0, i, h => by simp at h
  | n + 1, i, h => by
    simp only [repeated]
    by_cases hi : i < l.length
    · rw [List.getElem?_append_left hi, Nat.mod_eq_of_lt hi]
    · rw [List.getElem?_append_right (by omega), repeated_get l n (i - l.length) (by rw [Nat.succ_mul] at h; omega)]
      rw [← Nat.mod_eq_sub_mod (by omega)]

/-- n times the zero cells. -/
theorem zeros_rel {z : List AV} {z' : Array Value} {n : Nat} (h : LRel φ z z'.toList) : LRel φ (repeated n z) ((Array.range (n * z.length)).map (z'[· % z'.size]!)).toList := by
  have hl := h.length
  simp only [Array.length_toList] at hl
  refine LRel_of_get (by simp [repeated_length]) ?_
  intro i a ha
  have hi : i < n * z.length := by
    rcases Nat.lt_or_ge i (n * z.length) with h | h
    · exact h
    · rw [List.getElem?_eq_none (by rw [repeated_length]; exact h)] at ha; cases ha
  rw [repeated_get z n i hi] at ha
  obtain ⟨v, hv, hr⟩ := h.nth (n := i % z.length) (by rw [nth_eq]; exact ha)
  refine ⟨v, ?_, hr⟩
  have hv' : z'[i % z.length]? = some v := by simpa using hv
  simp only [Array.toList_map, Array.toList_range, List.getElem?_map, List.getElem?_range hi, Option.map_some, hl]
  rw [getElem!_def, hv']

theorem buildSlice_run (H : T.Ok P) (R : Rel B w₀ Q φ A w) {t : TypeId} {n : Nat} {parts : List (Nat × AV)} {parts' : Array (Nat × Value)} {v : AV} (h : buildSlice T A t n parts = some (v, A')) (hp : PRel φ parts parts'.toList) :
    Gives P B w₀ Q φ w A' v (Instr.buildSlice t n parts') := by
  unfold buildSlice at h
  split at h
  · rename_i elem hu
    split at h
    · rename_i m z hm hz
      cases hb : Nat.beq z.cells.length m && Nat.ble (n * m) 16777216 with
      | false => rw [hb] at h; cases h
      | true =>
        rw [hb] at h
        simp only [cond_true] at h
        simp only [Bool.and_eq_true] at hb
        have hzl := Nat.eq_of_beq_eq_true hb.1
        have hle := Nat.le_of_ble_eq_true hb.2
        split at h
        · rename_i cs hcs
          cases ho : allOne cs with
          | false => rw [ho] at h; cases h
          | true =>
            rw [ho] at h
            simp only [cond_true] at h
            cases he : A.newRow elem cs with
            | mk b A₁ =>
              rw [he] at h
              cases h
              obtain ⟨zv, hzv, hzr⟩ := H.run_zero (w := w) hz
              have hzc := cells_rel (hzr φ) (zero_known hz)
              have hzl' := hzc.length
              simp only [Array.length_toList] at hzl'
              have hzero := zeros_rel (n := n) hzc
              rw [hzl] at hzero
              obtain ⟨out, hout, hr⟩ := fill_run hp hzero hcs
              obtain ⟨h1, h2, h3⟩ := newRow_gives (P := P) R hr he
              refine ⟨_, .slice (some ⟨w.heap.size, 0, none⟩) n n, _, ?_, h2, h3, ?_⟩
              · have hnot : ¬ (n * m > 2 ^ 24) := by
                  have : (2 : Nat) ^ 24 = 16777216 := by decide
                  omega
                by_cases hz0 : n * m = 0
                · have hq : ∀ q : Array Value, (Array.range (n * m)).map (q[· % q.size]!) = #[] := by
                    intro q; rw [hz0]; exact Array.size_eq_zero_iff.1 (by simp)
                  rw [hq] at hout
                  simp only [Instr.buildSlice, Sem.run_bind, H.run_und hu, Result.andThen_ok, H.run_size hm, hnot, if_false, if_pos hz0, Sem.run_pure, hq, hout, h1]
                · simp only [Instr.buildSlice, Sem.run_bind, H.run_und hu, Result.andThen_ok, H.run_size hm, hnot, if_false, Sem.run_pure, hz0, hzv, hout, h1]
              · simp only [VRel]
                exact ⟨_, n, rfl, Nat.le_refl _, Nat.le_refl _, fun _ => rfl, fun _ => ⟨w.heap.size, 0, 0, Inj.put_self _ _ _ _, rfl, rfl, fun he => by cases he⟩⟩
        · cases h
    · cases h
  · cases h

/-! Maps -/

theorem newMap_run (R : Rel B w₀ Q φ A w) {r : ARes} (h : newMap A = some (r, A')) :
    ∃ b, r = .val (.map b) ∧ Gives P B w₀ Q φ w A' (.map b) (do pure (.map (some (← newObj (.map #[] 0))))) := by
  unfold newMap at h
  cases he : A.new (.map [] 0) with
  | mk b A₁ =>
    rw [he] at h
    cases h
    obtain ⟨h1, h2, h3⟩ := new_rel R (o := .map [] 0) (r := .map #[] 0) ⟨#[], rfl, .nil⟩ (by intro _ _ _ _ _ _ h; cases h)
    rw [he] at h2 h3
    simp only at h2 h3
    subst h2
    exact ⟨_, rfl, _, .map (some w.heap.size), _, by simp, h1, h3, by simp only [VRel]; exact ⟨_, _, Inj.put_self _ _ _ _, rfl⟩⟩

theorem keyOk_run (H : T.Ok P) {empty : Bool} : ∀ (d e : Nat) (t : TypeId) (x : AV) (x' : Value), d ≤ e → keyOk T d t x = true → VRel φ x x' → (Instr.checkKey empty e t x').run P w = .ok () w
  | 0, e, t, x, x', _, h, _ => by simp [keyOk] at h
  | d + 1, 0, t, x, x', hde, _, _ => by omega
  | d + 1, e + 1, t, x, x', hde, h, hx => by
    unfold keyOk at h
    split at h
    · split at h
      · rename_i hu
        simp only [VRel] at hx; subst hx
        simp [Instr.checkKey, H.run_und hu]
      · cases h
    · split at h
      · rename_i hu
        simp only [VRel] at hx
        obtain ⟨u, rfl, _⟩ := hx
        simp [Instr.checkKey, H.run_und hu]
      · cases h
    · split at h
      · rename_i hu
        simp only [VRel] at hx; subst hx
        simp [Instr.checkKey, H.run_und hu]
      · cases h
    · rename_i cs
      split at h
      · rename_i fields hu
        simp only [VRel] at hx
        obtain ⟨cs', rfl, hc⟩ := hx
        simp only [Bool.and_eq_true] at h
        obtain ⟨_, h⟩ := h
        simp only [Instr.checkKey, Sem.run_bind, H.run_und hu, Result.andThen_ok]
        rw [← Array.forIn_toList]
        simp only
        clear hu
        induction fields with
        | nil => simp
        | cons f fs ih =>
          simp only [List.all_cons, Bool.and_eq_true] at h
          obtain ⟨h1, h2⟩ := h
          split at h1
          · rename_i v hv
            simp only [Bool.and_eq_true] at h1
            have hname : ¬ f.name = "_" := by
              intro hn; rw [if_pos hn] at h1; exact absurd h1.1 (by simp)
            obtain ⟨v', hv', hr⟩ := part_run (w := w) H hc hv
            have := keyOk_run H (empty := empty) d e f.type v v' (by omega) h1.2 hr
            simp only [List.forIn_cons, Sem.run_bind, ne_eq, hname, not_false_eq_true, if_true, hv', this, Result.andThen_ok, Sem.run_pure]
            exact ih h2
          · cases h1
      · cases h
    · cases h
end
end Go.Abs
