/- Regions that draw their order: one stage. -/
import Derived.Test.YtfgefjpgmfjmjaaGreatDoorAbsDraw
namespace Go.Abs
open Go.RowKit (Below)

section
variable {T : Tabs} {P : Program} {B : Nat} {Q : List Nat} {w₀ w w' : World} {φ ψ : Inj} {A A' : AHeap}

theorem pure1_same {o : Option AV} {r : ARes} (h : pure1 A o = some (r, A')) : A' = A := by
  obtain ⟨_, _, _, e⟩ := pure1_some h; exact e

/-- What neither acts nor makes leaves the heap as it is. -/
theorem exec_same {ρ : Operand → Option AV} {op : Op} {r : ARes} (ha : actsOp op = false) (hm : makes op = false) (h : exec T ρ A op = some (r, A')) : A' = A := by
  cases op <;> try (first | (cases ha; done) | (cases hm; done) | (cases h; done))
  case move x => exact pure1_same h
  case assign x => exact pure1_same h
  case pick c a b =>
    replace h : exPick ρ A c a b = some (r, A') := h
    unfold exPick at h
    split at h <;> first | exact pure1_same h | cases h
  case build t parts =>
    replace h : exBuild T ρ A t parts.toList = some (r, A') := h
    unfold exBuild at h
    split at h <;> first | exact pure1_same h | cases h
  case load t a =>
    replace h : exLoad T A t (ρ a) = some (r, A') := h
    unfold exLoad at h
    split at h <;> first | exact pure1_same h | cases h
  case nilCheck x =>
    replace h : exNilCheck A (ρ x) = some (r, A') := h
    unfold exNilCheck at h
    split at h <;> cases h <;> rfl
  case binOp op t x y c =>
    replace h : exBin T A op t (isConst x) (isConst y) (ρ x) (ρ y) = some (r, A') := h
    unfold exBin at h
    split at h
    · split at h <;> first | exact pure1_same h | cases h
    · cases h
  case unOp op t x =>
    replace h : exUn A op (ρ x) = some (r, A') := h
    unfold exUn at h
    split at h <;> first | exact pure1_same h | cases h
  case convert s d x =>
    replace h : exConvert T A s d (ρ x) = some (r, A') := h
    unfold exConvert at h
    split at h
    · obtain ⟨v, hv, _⟩ := heap1_some h
      unfold convert at hv
      split at hv <;> cases hv <;> rfl
    · cases h
  case makeInterface t x =>
    replace h : exMakeInterface T A t (ρ x) = some (r, A') := h
    unfold exMakeInterface at h
    split at h
    · cases h
    · split at h <;> cases h; rfl
    · cases h
  case makeFunc f first captured =>
    replace h : exMakeFunc ρ A f first.toList captured.toList = some (r, A') := h
    unfold exMakeFunc at h
    split at h
    · split at h
      · split at h <;> cases h; rfl
      · cases h
    · cases h
  case slice t x lo hi mx =>
    replace h : exSlice T ρ A t x lo hi mx = some (r, A') := h
    unfold exSlice at h
    split at h
    · split at h
      · split at h
        · split at h <;> first | exact pure1_same h | cases h
        · cases h
      · cases h
    · cases h
  case fieldAddr s x f =>
    replace h : exFieldAddr T A s (ρ x) f = some (r, A') := h
    unfold exFieldAddr at h
    split at h <;> first | exact pure1_same h | cases h
  case field s x f =>
    replace h : exField T A s (ρ x) f = some (r, A') := h
    unfold exField at h
    split at h <;> first | exact pure1_same h | cases h
  case indexAddr t x i =>
    replace h : exIndexAddr T A t (ρ x) (ρ i) = some (r, A') := h
    unfold exIndexAddr at h
    split at h
    · split at h <;> first | exact pure1_same h | cases h
    · cases h
  case index t x i =>
    replace h : exIndex T A t (ρ x) (ρ i) = some (r, A') := h
    unfold exIndex at h
    split at h
    · split at h <;> first | exact pure1_same h | cases h
    · cases h
  case lookup t x k ok =>
    replace h : exLookup T A t (ρ x) (ρ k) ok = some (r, A') := h
    unfold exLookup at h
    split at h
    · split at h <;> first | exact pure1_same h | cases h
    · cases h
  case typeAssert x xt t ok =>
    replace h : exTypeAssert T A (ρ x) t ok = some (r, A') := h
    unfold exTypeAssert at h
    split at h <;> first | exact pure1_same h | cases h
  case extract t i =>
    replace h : exExtract A (ρ t) i = some (r, A') := h
    unfold exExtract at h
    split at h <;> first | exact pure1_same h | cases h
  case call c =>
    obtain ⟨callee, ⟨args⟩, ⟨ts⟩⟩ := c
    cases callee with
    | builtin b =>
      replace h : exBuiltin T A b ts (evals ρ args) = some (r, A') := h
      unfold exBuiltin at h
      split at h
      · unfold builtinOp at h
        split at h
        · split at h <;> cases h; rfl
        · cases ha
        · cases ha
        · split at h <;> cases h; rfl
        · split at h <;> cases h; rfl
        · cases ha
        · cases h
      · cases h
    | value f => cases ha
    | invoke f m => cases ha

/-! What is made -/

def realMade (N : Nat) : Option (Nat × Nat) → Value
  | none => .pointer (some ⟨N, 0, none⟩)
  | some (n, m) => .slice (some ⟨N, 0, none⟩) n m

theorem madeVal_rel {b n : Nat} (sl : Option (Nat × Nat)) (h : ∀ x y, sl = some (x, y) → x ≤ y) : VRel (φ.put b (w.heap.size, 0) n) (madeVal b sl) (realMade w.heap.size sl) := by
  cases sl with
  | none => exact put_ptr φ b _ _
  | some p =>
    obtain ⟨x, y⟩ := p
    simp only [madeVal, realMade, VRel]
    exact ⟨_, y, rfl, h x y rfl, Nat.le_refl _, fun _ => rfl, fun _ => ⟨w.heap.size, 0, 0, Inj.put_self _ _ _ _, rfl, rfl, fun he => by cases he⟩⟩

theorem made_run (H : T.Ok P) {ρ : Operand → Option AV} {ρ' : Operand → Value} (hρ : ∀ x v, ρ x = some v → VRel φ v (ρ' x)) {o : Oper} {e : TypeId} {cs : List AV} {sl : Option (Nat × Nat)} (h : madeOf T ρ o.op = some ⟨e, cs, sl⟩) (w : World) :
    (∀ x y, sl = some (x, y) → x ≤ y) ∧ ∃ cs' : Array Value, LRel φ cs cs'.toList ∧ (execOp ρ' o).run P w = .ok (.value (realMade w.heap.size sl)) (w.alloc (.cells cs' e)) := by
  obtain ⟨dst, op, ty, pos, after, g⟩ := o
  unfold execOp
  cases op <;> try (cases h; done)
  case alloc elem =>
    replace h : (match T.zero elem with | some z => some (Made.mk elem z.cells none) | none => none) = some ⟨e, cs, sl⟩ := h
    split at h
    · rename_i z hz
      cases h
      obtain ⟨zv, hzv, hzr⟩ := H.run_zero (w := w) hz
      have hzc := cells_rel (hzr φ) (zero_known hz)
      refine ⟨fun x y h => (by cases h), zv.cells, hzc, ?_⟩
      show ((do pure (Next.value (← Instr.alloc e true (.tuple #[]))) : Sem Next)).run P w = _
      simp [Instr.alloc, hzv, newVar, newRow, realMade]
    · cases h
  case buildSlice t n parts =>
    replace h : madeSlice T t n (evalParts ρ parts.toList) = some ⟨e, cs, sl⟩ := h
    unfold madeSlice at h
    split at h
    · rename_i elem ps hu hps
      split at h
      · rename_i m z hm hz
        cases hb : Nat.beq z.cells.length m && Nat.ble (n * m) 16777216 with
        | false => rw [hb] at h; cases h
        | true =>
          rw [hb] at h
          simp only [cond_true] at h
          simp only [Bool.and_eq_true] at hb
          have hzl := Nat.eq_of_beq_eq_true hb.1
          have hle := Nat.le_of_ble_eq_true hb.2
          split at h
          · rename_i cs₁ hcs
            cases h
            have hp : PRel φ ps ((parts.map fun x => (x.1, ρ' x.2)).toList) := by simpa using evalParts_rel hρ hps
            obtain ⟨zv, hzv, hzr⟩ := H.run_zero (w := w) hz
            have hzc := cells_rel (hzr φ) (zero_known hz)
            have hzero := zeros_rel (n := n) hzc
            rw [hzl] at hzero
            obtain ⟨out, hout, hr⟩ := fill_run hp hzero hcs
            refine ⟨fun x y h => (by cases h; exact Nat.le_refl _), out, hr, ?_⟩
            have hnot : ¬ (n * m > 2 ^ 24) := by
              have : (2 : Nat) ^ 24 = 16777216 := by decide
              omega
            have g1 : (newRow e out).run P w = .ok ⟨w.heap.size, 0, none⟩ (w.alloc (.cells out e)) := by simp [newRow]
            have key : (Instr.buildSlice t n (parts.map fun x => (x.1, ρ' x.2))).run P w = .ok (.slice (some ⟨w.heap.size, 0, none⟩) n n) (w.alloc (.cells out e)) := by
              by_cases hz0 : n * m = 0
              · have hq : ∀ q : Array Value, (Array.range (n * m)).map (q[· % q.size]!) = #[] := by
                  intro q; rw [hz0]; exact Array.size_eq_zero_iff.1 (by simp)
                rw [hq] at hout
                simp only [Instr.buildSlice, Sem.run_bind, H.run_und hu, Result.andThen_ok, H.run_size hm, hnot, if_false, if_pos hz0, Sem.run_pure, hq, hout, g1]
              · simp only [Instr.buildSlice, Sem.run_bind, H.run_und hu, Result.andThen_ok, H.run_size hm, hnot, if_false, Sem.run_pure, hz0, hzv, hout, g1]
            show ((do pure (Next.value (← Instr.buildSlice t n (parts.map fun x => (x.1, ρ' x.2)))) : Sem Next)).run P w = _
            simp only [Sem.run_bind, key, Result.andThen_ok, Sem.run_pure, realMade]
          · cases h
      · cases h
    · cases h
  case makeSlice t l c =>
    replace h : madeRow T t (ρ l) (ρ c) = some ⟨e, cs, sl⟩ := h
    unfold madeRow at h
    split at h
    · rename_i elem n m hu hl hc
      split at h
      · rename_i i z hi hz
        cases hb : Nat.ble n m && Nat.ble (i.bytes * m) rowBytes && Nat.ble m 4611686018427387904 && Nat.beq z.cells.length i.size with
        | false => rw [hb] at h; cases h
        | true =>
          rw [hb] at h
          cases h
          simp only [Bool.and_eq_true] at hb
          obtain ⟨⟨⟨h1, h2⟩, h3⟩, h4⟩ := hb
          cases he : (AHeap.mk .leaf 0 .leaf).newRow e (repeated m z.cells) with
          | mk b A₁ =>
            have hl' := hρ _ _ hl
            have hc' := hρ _ _ hc
            simp only [VRel] at hl' hc'
            replace h1 := Nat.le_of_ble_eq_true h1
            replace h2 := Nat.le_of_ble_eq_true h2
            replace h3 := Nat.le_of_ble_eq_true h3
            replace h4 := Nat.eq_of_beq_eq_true h4
            obtain ⟨zv, hzv, hzr⟩ := H.run_zero (w := w) hz
            have hzc := cells_rel (hzr φ) (zero_known hz)
            have hzero := zeros_rel (n := m) hzc
            refine ⟨fun x y h => (by cases h; exact h1), _, hzero, ?_⟩
            have g1 := fun arr : Array Value => (show (newRow e arr).run P w = .ok ⟨w.heap.size, 0, none⟩ (w.alloc (.cells arr e)) by simp [newRow])
            have hwn : IntKind.i64.wrap (n : Int) = n := by rw [IntKind.wrap_i64]; omega
            have hwm : IntKind.i64.wrap (m : Int) = m := by rw [IntKind.wrap_i64]; omega
            have hb1' : ¬ (281474976710656 < (i.bytes : Int) * (m : Int)) := by
              have h2' : i.bytes * m ≤ 140737488355328 := h2
              have := Int.ofNat_le.2 h2'
              rw [Int.natCast_mul] at this
              omega
            have hI := H.run_info (w := w) hi
            have hsz : (sizeOf e).run P w = .ok i.size w := by simp [sizeOf, hI]
            have hm0 : ¬ ((m : Int) < 0) := by omega
            have hn0 : ¬ ((n : Int) < 0) := by omega
            have hnm' : ¬ (m < n) := by omega
            show ((do pure (Next.value (← Instr.makeSlice t (ρ' l) (ρ' c))) : Sem Next)).run P w = _
            rw [hl', hc', h4]
            by_cases hz0 : m * i.size = 0
            · have hq : ∀ f : Nat → Value, (Array.range (m * i.size)).map f = #[] := by
                intro f; rw [hz0]; exact Array.size_eq_zero_iff.1 (by simp)
              have hq0 : ∀ f : Nat → Value, (Array.range 0).map f = #[] := fun f => Array.size_eq_zero_iff.1 (by simp)
              rw [hq]
              simp [hq0, Instr.makeSlice, H.run_und hu, asInt, asIntOf, hI, hwn, hwm, hsz, hm0, hn0, hb1', hnm', hz0, g1, realMade]
            · simp [Instr.makeSlice, H.run_und hu, asInt, asIntOf, hI, hwn, hwm, hsz, hm0, hn0, hb1', hnm', hz0, hzv, g1, realMade]
      · cases h
    · cases h
end
end Go.Abs
