/- One operation: what the machine tells of it is what the model does. -/
import Derived.Test.YtfgefjpgmfjmjaaGreatDoorAbsCall
namespace Go.Abs
open Go.RowKit (Below)

section
variable {T : Tabs} {P : Program} {B : Nat} {Q : List Nat} {w₀ w : World} {φ : Inj} {A A' : AHeap}

/-- What comes of an operation. -/
def Out (P : Program) (B : Nat) (w₀ : World) (Q : List Nat) (φ : Inj) (w : World) (A' : AHeap) (r : ARes) (s : Sem Next) : Prop :=
  match r with
  | .val a => ∃ φ' v w', s.run P w = .ok (.value v) w' ∧ φ.le φ' ∧ Rel B w₀ Q φ' A' w' ∧ VRel φ' a v
  | .skip => ∃ φ' w', s.run P w = .ok .skip w' ∧ φ.le φ' ∧ Rel B w₀ Q φ' A' w'
  | .enter f args => ∃ vs : Array Value, s.run P w = .ok (.enter f vs) w ∧ LRel φ args vs.toList ∧ Rel B w₀ Q φ A' w
  | .round l args => ∃ N d, ∃ vs : Array Value, φ l = some (N, d) ∧ s.run P w = (Instr.yield N vs).run P w ∧ LRel φ args vs.toList ∧ Rel B w₀ Q φ A' w
  | .defer d => ∃ e, s.run P w = .ok (.defer e) w ∧ DefRel φ d e ∧ Rel B w₀ Q φ A' w
  | .recover => s.run P w = .ok .recover w ∧ Rel B w₀ Q φ A' w
  | .panic a => ∃ v, s.run P w = .halt (.panic v) w ∧ VRel φ a v ∧ Rel B w₀ Q φ A' w

theorem Gives.out {a : AV} {s : Sem Value} (h : Gives P B w₀ Q φ w A' a s) : Out P B w₀ Q φ w A' (.val a) (do pure (.value (← s))) := by
  obtain ⟨φ', v, w', h1, h2, h3, h4⟩ := h
  exact ⟨φ', v, w', by simp only [Sem.run_bind, h1, Result.andThen_ok, Sem.run_pure], h2, h3, h4⟩
theorem Computes.out {a : AV} {s : Sem Value} (h : Computes P φ w a s) (R : Rel B w₀ Q φ A w) : Out P B w₀ Q φ w A (.val a) (do pure (.value (← s))) := (h.gives R).out
theorem GivesU.out {s : Sem Unit} (h : GivesU P B w₀ Q φ w A' s) : Out P B w₀ Q φ w A' .skip (do s; pure .skip) := by
  obtain ⟨φ', w', h1, h2, h3⟩ := h
  exact ⟨φ', w', by simp only [Sem.run_bind, h1, Result.andThen_ok, Sem.run_pure], h2, h3⟩
theorem Out.value (R : Rel B w₀ Q φ A w) {a : AV} {v : Value} (h : VRel φ a v) : Out P B w₀ Q φ w A (.val a) (pure (.value v)) := ⟨φ, v, w, rfl, φ.le_refl, R, h⟩

theorem pure1_some {o : Option AV} {r : ARes} (h : pure1 A o = some (r, A')) : ∃ v, o = some v ∧ r = .val v ∧ A' = A := by
  cases o with
  | none => cases h
  | some v => cases h; exact ⟨v, rfl, rfl, rfl⟩
theorem heap1_some {o : Option (AV × AHeap)} {r : ARes} (h : heap1 o = some (r, A')) : ∃ v, o = some (v, A') ∧ r = .val v := by
  cases o with
  | none => cases h
  | some v => cases h; exact ⟨v.1, rfl, rfl⟩
theorem skip1_some {o : Option AHeap} {r : ARes} (h : skip1 o = some (r, A')) : o = some A' ∧ r = .skip := by
  cases o with
  | none => cases h
  | some v => cases h; exact ⟨rfl, rfl⟩

/-! Functions without a body -/

theorem findByte_eq (c : Nat) : ∀ (l : List Nat) (i : Nat), findByte c l i = ((List.range l.length).find? fun j => l[j]? == some c).map (· + i)
  | [], i => by simp [findByte]
  | b :: l, i => by
    simp only [findByte, List.length_cons, List.range_succ_eq_map, List.find?_cons]
    cases hb : Nat.beq b c with
    | true =>
      have := Nat.eq_of_beq_eq_true hb
      subst this
      simp
    | false =>
      have hne : b ≠ c := by rintro rfl; simp at hb
      have h0 : ((b :: l)[0]? == some c) = false := by simpa using hne
      simp only [cond_false, h0]
      rw [findByte_eq c l (i + 1), List.find?_map, Option.map_map]
      have h1 : ((fun j => (b :: l)[j]? == some c) ∘ Nat.succ) = fun j => l[j]? == some c := by
        funext j; simp
      have h2 : ((fun x => x + i) ∘ Nat.succ) = fun x => x + (i + 1) := by
        funext j; simp only [Function.comp]; omega
      rw [h1, h2]

theorem find_congr {α : Type} {p q : α → Bool} : ∀ {l : List α}, (∀ x ∈ l, p x = q x) → l.find? p = l.find? q
  | [], _ => rfl
  | a :: l, h => by
    rw [List.find?_cons, List.find?_cons, h a (by simp), find_congr fun x hx => h x (by simp [hx])]

theorem firstIdx_eq (u : ByteArray) (c : Nat) (hc : c < 256) : foundInt (findByte c (bytesOf u) 0) = .int .i64 (firstIdx u c.toUInt8) := by
  rw [findByte_eq, bytesOf_length]
  unfold firstIdx
  have : ((List.range u.size).find? fun j => (bytesOf u)[j]? == some c) = (List.range u.size).find? fun i => u[i]! == c.toUInt8 := by
    refine find_congr fun i hi => ?_
    have hi' : i < u.size := List.mem_range.1 hi
    rw [getElem!_pos u i hi']
    have hl : i < u.data.toList.length := by rw [Array.length_toList]; exact hi'
    have h1 : (bytesOf u)[i]? = some u[i].toNat := by
      unfold bytesOf
      rw [List.getElem?_map, List.getElem?_eq_getElem hl]
      rfl
    rw [h1, Bool.eq_iff_iff]
    simp only [beq_iff_eq, Option.some.injEq]
    constructor
    · intro h
      apply UInt8.toNat_inj.1
      rw [h]
      show c = c % 256
      omega
    · intro h
      rw [h]
      show c % 256 = c
      omega
  rw [this]
  cases (List.range u.size).find? fun i => u[i]! == c.toUInt8 <;> rfl

theorem callFn_run (H : T.Ok P) (R : Rel B w₀ Q φ A w) {f : FuncId} {args : List AV} {args' : Array Value} {r : ARes} (h : callFn T A f args = some (r, A')) (ha : LRel φ args args'.toList) : Out P B w₀ Q φ w A' r (callFunc f args') := by
  unfold callFn at h
  split at h
  · rename_i fn hf
    obtain ⟨hfn, hname⟩ := H.fns _ _ hf
    split at h
    · rename_i body hb
      cases h
      refine ⟨args', ?_, ha, R⟩
      have h1 : fn.name ≠ "runtime.NumGoroutine" := by simpa using hname
      simp [callFunc, hfn, h1, hb]
    · rename_i hb
      split at h
      · rename_i v hv
        cases h
        unfold extern at hv
        split at hv
        · rename_i he
          obtain ⟨fn', h1, h2, h3, h4, h5⟩ := H.ext0 _ he
          split at hv
          · rename_i s c
            cases hlt : Nat.blt c 256 with
            | false => rw [hlt] at hv; cases hv
            | true =>
              rw [hlt] at hv
              cases hv
              simp only [LRel] at ha
              obtain ⟨x, y, e, hx, x2, y2, e2, hx2, rfl⟩ := ha
              subst e2
              simp only [VRel] at hx hx2
              obtain ⟨u, rfl, rfl⟩ := hx
              subst hx2
              obtain rfl : args' = #[.string u, .int .u8 (Int.ofNat c)] := by
                apply Array.ext'; rw [e]
              have hlt' : c < 256 := by simpa using hlt
              refine (Out.value (P := P) R (a := foundInt (findByte c (bytesOf u) 0)) (v := .int .i64 (firstIdx u c.toUInt8)) (by rw [firstIdx_eq u c hlt']; simp only [VRel])) |> fun ho => ?_
              obtain ⟨φ', v, w', g1, g2, g3, g4⟩ := ho
              refine ⟨φ', v, w', ?_, g2, g3, g4⟩
              rw [run_callFunc_extern h1 h2 h3 h4 h5, run_indexByte_string]
              exact g1
          · cases hv
        · rename_i he
          obtain ⟨fn', h1, h2, h3, h4, h5⟩ := H.ext1 _ he
          split at hv
          · rename_i x
            cases hv
            simp only [LRel] at ha
            obtain ⟨x', y, e, hx, rfl⟩ := ha
            obtain rfl : args' = #[x'] := by apply Array.ext'; rw [e]
            refine ⟨φ, x', w, ?_, φ.le_refl, R, hx⟩
            rw [run_callFunc_extern h1 h2 h3 h4 h5]
            rfl
          · cases hv
        · cases hv
      · cases h
  · cases h

theorem invoke_run (H : T.Ok P) (R : Rel B w₀ Q φ A w) {f : Fn} {g : Fn} {captured args : List AV} {captured' args' : Array Value} {r : ARes} (h : invoke T A f captured args = some (r, A')) (hf : FnRel φ f g)
    (hc : LRel φ captured captured'.toList) (ha : LRel φ args args'.toList) : Out P B w₀ Q φ w A' r (Go.invoke (.fn g captured') args') := by
  unfold invoke at h
  split at h
  · rename_i k
    have hf' : g = .func k := hf
    subst hf'
    exact callFn_run H R h (by rw [Array.toList_append]; exact ha.append hc)
  · rename_i l
    cases h
    obtain ⟨N, d, e, rfl⟩ := hf
    exact ⟨N, d, args', e, rfl, ha, R⟩
  · cases h

theorem evals_nil (ρ : Operand → Option AV) : evals ρ [] = some [] := rfl
theorem evals_cons (ρ : Operand → Option AV) (x : Operand) (l : List Operand) : evals ρ (x :: l) = consOpt (ρ x) (evals ρ l) := rfl
theorem evals_rel {ρ : Operand → Option AV} {ρ' : Operand → Value} (hρ : ∀ x v, ρ x = some v → VRel φ v (ρ' x)) : ∀ {l : List Operand} {vs : List AV}, evals ρ l = some vs → LRel φ vs (l.map ρ')
  | [], vs, h => by rw [evals_nil] at h; cases h; simp only [List.map_nil, LRel]
  | x :: l, vs, h => by
    rw [evals_cons] at h
    obtain ⟨a, b, h1, h2, rfl⟩ := consOpt_some h
    simp only [List.map_cons, LRel]
    exact ⟨_, _, rfl, hρ x a h1, evals_rel hρ h2⟩
theorem evalOpt_rel {ρ : Operand → Option AV} {ρ' : Operand → Value} (hρ : ∀ x v, ρ x = some v → VRel φ v (ρ' x)) {x : Option Operand} {v : Option AV} (h : evalOpt ρ x = some v) : ORelOpt φ v (x.map ρ') := by
  cases x with
  | none => cases h; exact trivial
  | some x =>
    unfold evalOpt at h
    split at h
    · cases h; rename_i hx; cases hx
    · rename_i y hy
      cases hy
      split at h
      · rename_i v hv; cases h; exact hρ _ _ hv
      · cases h

theorem makeSlice_run (H : T.Ok P) (R : Rel B w₀ Q φ A w) {t : TypeId} {l c : Option AV} {l' c' : Value} {r : ARes} (h : exMakeSlice T A t l c = some (r, A')) (hl : ∀ v, l = some v → VRel φ v l') (hc : ∀ v, c = some v → VRel φ v c') :
    ∃ v, r = .val v ∧ Gives P B w₀ Q φ w A' v (Instr.makeSlice t l' c') := by
  unfold exMakeSlice at h
  split at h
  · rename_i elem hu
    split at h
    · rename_i n
      split at h
      · rename_i m
        split at h
        · rename_i i hi
          split at h
          · rename_i z hz
            have hl' := hl _ rfl
            have hc' := hc _ rfl
            simp only [VRel] at hl' hc'
            subst hl'; subst hc'
            unfold makeSlice at h
            cases hb : Nat.ble n m && Nat.ble (i.bytes * m) rowBytes && Nat.ble m 4611686018427387904 && Nat.beq z.cells.length i.size && allOne z.cells with
            | false => rw [hb] at h; cases h
            | true =>
              rw [hb] at h
              simp only [cond_true] at h
              simp only [Bool.and_eq_true] at hb
              obtain ⟨⟨⟨⟨h1, h2⟩, h3⟩, h4⟩, h5⟩ := hb
              replace h1 := Nat.le_of_ble_eq_true h1
              replace h2 := Nat.le_of_ble_eq_true h2
              replace h3 := Nat.le_of_ble_eq_true h3
              replace h4 := Nat.eq_of_beq_eq_true h4
              cases he : A.newRow elem (repeated m z.cells) with
              | mk b A₁ =>
                rw [he] at h
                cases h
                obtain ⟨zv, hzv, hzr⟩ := H.run_zero (w := w) hz
                have hzc := cells_rel (hzr φ) (zero_known hz)
                have hzero := zeros_rel (n := m) hzc
                obtain ⟨g1, g2, g3⟩ := newRow_gives (P := P) R hzero he
                refine ⟨_, rfl, _, .slice (some ⟨w.heap.size, 0, none⟩) n m, _, ?_, g2, g3, ?_⟩
                · have hwn : IntKind.i64.wrap (n : Int) = n := by rw [IntKind.wrap_i64]; omega
                  have hwm : IntKind.i64.wrap (m : Int) = m := by rw [IntKind.wrap_i64]; omega
                  have hb1 : ¬ ((i.bytes : Int) * (m : Int) > 281474976710656) := by
                    have h2' : i.bytes * m ≤ 140737488355328 := h2
                    have := Int.ofNat_le.2 h2'
                    rw [Int.natCast_mul] at this
                    omega
                  have hI := H.run_info (w := w) hi
                  have hsz : (sizeOf elem).run P w = .ok i.size w := by simp [sizeOf, hI]
                  have hm0 : ¬ ((m : Int) < 0) := by omega
                  have hn0 : ¬ ((n : Int) < 0) := by omega
                  have hnm' : ¬ (m < n) := by omega
                  have hb1' : ¬ (281474976710656 < (i.bytes : Int) * (m : Int)) := by omega
                  by_cases hz0 : m * i.size = 0
                  · have hq : ∀ f : Nat → Value, (Array.range (m * i.size)).map f = #[] := by
                      intro f; rw [hz0]; exact Array.size_eq_zero_iff.1 (by simp)
                    have hq0 : ∀ f : Nat → Value, (Array.range 0).map f = #[] := fun f => Array.size_eq_zero_iff.1 (by simp)
                    rw [h4, hq] at g1 ⊢
                    simp [hq0, Instr.makeSlice, H.run_und hu, asInt, asIntOf, hI, hwn, hwm, hsz, hm0, hn0, hb1', hnm', hz0, g1]
                  · rw [h4] at g1 ⊢
                    simp [Instr.makeSlice, H.run_und hu, asInt, asIntOf, hI, hwn, hwm, hsz, hm0, hn0, hb1', hnm', hz0, hzv, g1]
                · simp only [VRel]
                  exact ⟨_, m, rfl, h1, Nat.le_refl _, fun _ => rfl, fun _ => ⟨w.heap.size, 0, 0, Inj.put_self _ _ _ _, rfl, rfl, fun he => by cases he⟩⟩
          · cases h
        · cases h
      · cases h
    · cases h
  · cases h

theorem asBool_run (b : Bool) : (asBool (.bool b)).run P w = .ok b w := rfl

theorem exPick_run (R : Rel B w₀ Q φ A w) {ρ : Operand → Option AV} {ρ' : Operand → Value} (hρ : ∀ x v, ρ x = some v → VRel φ v (ρ' x)) {c a b : Operand} {r : ARes} (h : exPick ρ A c a b = some (r, A')) :
    Out P B w₀ Q φ w A' r (do pure (.value (if ← asBool (ρ' c) then ρ' a else ρ' b))) := by
  unfold exPick at h
  split at h
  · rename_i hc
    have := hρ _ _ hc
    simp only [VRel] at this
    obtain ⟨v, hv, rfl, rfl⟩ := pure1_some h
    rw [this]
    exact ⟨φ, _, w, rfl, φ.le_refl, R, hρ _ _ hv⟩
  · rename_i hc
    have := hρ _ _ hc
    simp only [VRel] at this
    obtain ⟨v, hv, rfl, rfl⟩ := pure1_some h
    rw [this]
    exact ⟨φ, _, w, rfl, φ.le_refl, R, hρ _ _ hv⟩
  · cases h

theorem builtin_run (H : T.Ok P) (R : Rel B w₀ Q φ A w) {b : Builtin} {ts : List TypeId} {ts' : Array TypeId} {ty : TypeId} {cs : Array Bool} {args : List AV} {args' : Array Value} {r : ARes} (h : builtinOp T A b ts args = some (r, A')) (hts : ts'.toList = ts)
    (ha : LRel φ args args'.toList) : Out P B w₀ Q φ w A' r (Go.builtin b ts' ty cs args') := by
  obtain rfl : ts' = ts.toArray := by apply Array.ext'; rw [hts]
  unfold builtinOp at h
  split at h
  · rename_i t x
    simp only [LRel] at ha
    obtain ⟨x', y, e, hx, rfl⟩ := ha
    obtain rfl : args' = #[x'] := by apply Array.ext'; rw [e]
    split at h
    · rename_i v hv
      cases h
      exact (len_run (ty := ty) H R hv hx).out R
    · cases h
  · rename_i st xt s x
    simp only [LRel] at ha
    obtain ⟨s', y, e, hs, x', y2, e2, hx, rfl⟩ := ha
    subst e2
    obtain rfl : args' = #[s', x'] := by apply Array.ext'; rw [e]
    split at h
    · rename_i v A₁ hv
      cases h
      exact (append_run (ty := ty) H R hv hs hx).out
    · cases h
  · rename_i st xt s x
    simp only [LRel] at ha
    obtain ⟨s', y, e, hs, x', y2, e2, hx, rfl⟩ := ha
    subst e2
    obtain rfl : args' = #[s', x'] := by apply Array.ext'; rw [e]
    split at h
    · rename_i v A₁ hv
      cases h
      exact (copy_run (ty := ty) H R hv hs hx).out
    · cases h
  · rename_i ts x l
    simp only [LRel] at ha
    obtain ⟨x', y, e, hx, hy⟩ := ha
    split at h
    · rename_i v hv
      cases h
      refine Computes.out ?_ R
      simp only [Builtin.max_, e]
      exact maxes_run hv hy hx
    · cases h
  · rename_i ts x l
    simp only [LRel] at ha
    obtain ⟨x', y, e, hx, hy⟩ := ha
    split at h
    · rename_i v hv
      cases h
      refine Computes.out ?_ R
      simp only [Builtin.min_, e]
      exact mins_run hv hy hx
    · cases h
  · cases h
    exact ⟨rfl, R⟩
  · cases h

theorem exCall_run (H : T.Ok P) (R : Rel B w₀ Q φ A w) {ρ : Operand → Option AV} {ρ' : Operand → Value} (hρ : ∀ x v, ρ x = some v → VRel φ v (ρ' x)) {c : Call} {ty : TypeId} {r : ARes} (h : exCall T ρ A c = some (r, A')) :
    Out P B w₀ Q φ w A' r (do let d ← resolve ρ' c ty; Go.invoke d.target d.args) := by
  obtain ⟨callee, ⟨args⟩, ⟨ts⟩⟩ := c
  unfold exCall at h
  simp only at h
  split at h
  · rename_i b
    unfold exBuiltin at h
    split at h
    · rename_i vs hvs
      have := builtin_run (ty := ty) (cs := (Array.mk args).map fun | .const _ => true | _ => false) (ts' := Array.mk ts) (args' := (Array.mk args).map ρ') H R h rfl (by simpa using evals_rel hρ hvs)
      exact this
    · cases h
  · rename_i f
    unfold exCallValue at h
    split at h
    · rename_i g first captured hf
      split at h
      · rename_i vs hvs
        have hfr := hρ _ _ hf
        simp only [VRel] at hfr
        obtain ⟨g', a', c', e, hg, h1, h2⟩ := hfr
        have := invoke_run (args' := a' ++ (args.map ρ').toArray) H R h hg h2 (by simpa using h1.append (evals_rel hρ hvs))
        simpa [resolve, e, Deferred.ofValue] using this
      · cases h
    · cases h
  · cases h

theorem exDefer_run {ρ : Operand → Option AV} {ρ' : Operand → Value} (hρ : ∀ x v, ρ x = some v → VRel φ v (ρ' x)) {c : Call} {ty : TypeId} {r : ARes} (h : exDefer ρ A c = some (r, A')) :
    ∃ d e, r = .defer d ∧ A' = A ∧ (resolve ρ' c ty).run P w = .ok e w ∧ DefRel φ d e := by
  obtain ⟨callee, ⟨args⟩, ⟨ts⟩⟩ := c
  unfold exDefer at h
  simp only at h
  split at h
  · rename_i f
    unfold exDeferOf at h
    split at h
    · rename_i g first captured hf
      split at h
      · rename_i vs hvs
        cases h
        have hfr := hρ _ _ hf
        simp only [VRel] at hfr
        obtain ⟨g', a', c', e, hg, h1, h2⟩ := hfr
        refine ⟨_, { target := .fn g' c', args := a' ++ (args.map ρ').toArray }, rfl, rfl, by simp [resolve, e, Deferred.ofValue], g', c', rfl, hg, h2, ?_⟩
        simpa using h1.append (evals_rel hρ hvs)
      · cases h
    · cases h
  · cases h

theorem exec_move (_H : T.Ok P) (R : Rel B w₀ Q φ A w) {ρ : Operand → Option AV} {ρ' : Operand → Value} (hρ : ∀ x v, ρ x = some v → VRel φ v (ρ' x)) {x : Operand} {dst : Option Tmp} {ty : TypeId} {pos : String} {after : Array Edge} {g : Option (Nat × Bool)} {r : ARes} (h : exec T ρ A (.move x) = some (r, A')) :
    Out P B w₀ Q φ w A' r (execOp ρ' ⟨dst, .move x, ty, pos, after, g⟩) := by
  unfold execOp
  dsimp only
  obtain ⟨v, hv, rfl, rfl⟩ := pure1_some h
  exact Out.value R (hρ _ _ hv)

theorem exec_assign (_H : T.Ok P) (R : Rel B w₀ Q φ A w) {ρ : Operand → Option AV} {ρ' : Operand → Value} (hρ : ∀ x v, ρ x = some v → VRel φ v (ρ' x)) {x : Operand} {dst : Option Tmp} {ty : TypeId} {pos : String} {after : Array Edge} {g : Option (Nat × Bool)} {r : ARes} (h : exec T ρ A (.assign x) = some (r, A')) :
    Out P B w₀ Q φ w A' r (execOp ρ' ⟨dst, .assign x, ty, pos, after, g⟩) := by
  unfold execOp
  dsimp only
  obtain ⟨v, hv, rfl, rfl⟩ := pure1_some h
  exact Out.value R (hρ _ _ hv)

theorem exec_pick (_H : T.Ok P) (R : Rel B w₀ Q φ A w) {ρ : Operand → Option AV} {ρ' : Operand → Value} (hρ : ∀ x v, ρ x = some v → VRel φ v (ρ' x)) {c a b : Operand} {dst : Option Tmp} {ty : TypeId} {pos : String} {after : Array Edge} {g : Option (Nat × Bool)} {r : ARes} (h : exec T ρ A (.pick c a b) = some (r, A')) :
    Out P B w₀ Q φ w A' r (execOp ρ' ⟨dst, .pick c a b, ty, pos, after, g⟩) := by
  unfold execOp
  dsimp only
  exact exPick_run R hρ h

theorem exec_alloc (H : T.Ok P) (R : Rel B w₀ Q φ A w) {ρ : Operand → Option AV} {ρ' : Operand → Value} (_hρ : ∀ x v, ρ x = some v → VRel φ v (ρ' x)) {elem : TypeId} {dst : Option Tmp} {ty : TypeId} {pos : String} {after : Array Edge} {g : Option (Nat × Bool)} {r : ARes} (h : exec T ρ A (.alloc elem) = some (r, A')) :
    Out P B w₀ Q φ w A' r (execOp ρ' ⟨dst, .alloc elem, ty, pos, after, g⟩) := by
  unfold execOp
  dsimp only
  obtain ⟨b, rfl, hg⟩ := exAlloc_run (P := P) H R h
  exact hg.out

theorem exec_box (_H : T.Ok P) (R : Rel B w₀ Q φ A w) {ρ : Operand → Option AV} {ρ' : Operand → Value} (hρ : ∀ x v, ρ x = some v → VRel φ v (ρ' x)) {elem : TypeId} {x : Operand} {dst : Option Tmp} {ty : TypeId} {pos : String} {after : Array Edge} {g : Option (Nat × Bool)} {r : ARes} (h : exec T ρ A (.box elem x) = some (r, A')) :
    Out P B w₀ Q φ w A' r (execOp ρ' ⟨dst, .box elem x, ty, pos, after, g⟩) := by
  unfold execOp
  dsimp only
  obtain ⟨b, rfl, hg⟩ := exBox_run (P := P) R h (hρ x)
  exact hg.out

theorem exec_build (H : T.Ok P) (R : Rel B w₀ Q φ A w) {ρ : Operand → Option AV} {ρ' : Operand → Value} (hρ : ∀ x v, ρ x = some v → VRel φ v (ρ' x)) {t : TypeId} {parts : Array (Nat × Operand)} {dst : Option Tmp} {ty : TypeId} {pos : String} {after : Array Edge} {g : Option (Nat × Bool)} {r : ARes} (h : exec T ρ A (.build t parts) = some (r, A')) :
    Out P B w₀ Q φ w A' r (execOp ρ' ⟨dst, .build t parts, ty, pos, after, g⟩) := by
  unfold execOp
  dsimp only
  replace h : exBuild T ρ A t parts.toList = some (r, A') := h
  unfold exBuild at h
  split at h
  · rename_i ps hps
    obtain ⟨v, hv, rfl, rfl⟩ := pure1_some h
    exact (build_run H hv (parts' := parts.map fun (i, x) => (i, ρ' x)) (by simpa using evalParts_rel hρ hps)).out R
  · cases h

theorem exec_buildSlice (H : T.Ok P) (R : Rel B w₀ Q φ A w) {ρ : Operand → Option AV} {ρ' : Operand → Value} (hρ : ∀ x v, ρ x = some v → VRel φ v (ρ' x)) {t : TypeId} {n : Nat} {parts : Array (Nat × Operand)} {dst : Option Tmp} {ty : TypeId} {pos : String} {after : Array Edge} {g : Option (Nat × Bool)} {r : ARes} (h : exec T ρ A (.buildSlice t n parts) = some (r, A')) :
    Out P B w₀ Q φ w A' r (execOp ρ' ⟨dst, .buildSlice t n parts, ty, pos, after, g⟩) := by
  unfold execOp
  dsimp only
  replace h : exBuildSlice T ρ A t n parts.toList = some (r, A') := h
  unfold exBuildSlice at h
  split at h
  · rename_i ps hps
    obtain ⟨v, hv, rfl⟩ := heap1_some h
    refine Gives.out (buildSlice_run (P := P) H R hv ?_)
    simpa using evalParts_rel hρ hps
  · cases h

theorem exec_load (H : T.Ok P) (R : Rel B w₀ Q φ A w) {ρ : Operand → Option AV} {ρ' : Operand → Value} (hρ : ∀ x v, ρ x = some v → VRel φ v (ρ' x)) {t : TypeId} {a : Operand} {dst : Option Tmp} {ty : TypeId} {pos : String} {after : Array Edge} {g : Option (Nat × Bool)} {r : ARes} (h : exec T ρ A (.load t a) = some (r, A')) :
    Out P B w₀ Q φ w A' r (execOp ρ' ⟨dst, .load t a, ty, pos, after, g⟩) := by
  unfold execOp
  dsimp only
  replace h : exLoad T A t (ρ a) = some (r, A') := h
  unfold exLoad at h
  split at h
  · rename_i b o ha
    obtain ⟨v, hv, rfl, rfl⟩ := pure1_some h
    have hc := loadVar_run (P := P) H R hv (hρ _ _ ha)
    exact hc.out R
  · cases h

theorem exec_store (H : T.Ok P) (R : Rel B w₀ Q φ A w) {ρ : Operand → Option AV} {ρ' : Operand → Value} (hρ : ∀ x v, ρ x = some v → VRel φ v (ρ' x)) {t : TypeId} {a x : Operand} {dst : Option Tmp} {ty : TypeId} {pos : String} {after : Array Edge} {g : Option (Nat × Bool)} {r : ARes} (h : exec T ρ A (.store t a x) = some (r, A')) :
    Out P B w₀ Q φ w A' r (execOp ρ' ⟨dst, .store t a x, ty, pos, after, g⟩) := by
  unfold execOp
  dsimp only
  replace h : exStore T A t (ρ a) (ρ x) = some (r, A') := h
  unfold exStore at h
  split at h
  · rename_i b o ha
    split at h
    · rename_i v hv
      obtain ⟨hs, rfl⟩ := skip1_some h
      exact (storeVar_run H R hs (hρ _ _ ha) (hρ _ _ hv)).out
    · cases h
  · cases h

theorem exec_nilCheck (_H : T.Ok P) (R : Rel B w₀ Q φ A w) {ρ : Operand → Option AV} {ρ' : Operand → Value} (hρ : ∀ x v, ρ x = some v → VRel φ v (ρ' x)) {x : Operand} {dst : Option Tmp} {ty : TypeId} {pos : String} {after : Array Edge} {g : Option (Nat × Bool)} {r : ARes} (h : exec T ρ A (.nilCheck x) = some (r, A')) :
    Out P B w₀ Q φ w A' r (execOp ρ' ⟨dst, .nilCheck x, ty, pos, after, g⟩) := by
  unfold execOp
  dsimp only
  replace h : exNilCheck A (ρ x) = some (r, A') := h
  unfold exNilCheck at h
  split at h
  · rename_i b o hx
    cases h
    have hr := hρ _ _ hx
    have hr' := hr
    simp only [VRel] at hr
    obtain ⟨N, d, off, _, _, e⟩ := hr
    simp only [e]
    rw [e] at hr'
    exact Out.value R hr'
  · rename_i f a c hx
    cases h
    have hr := hρ _ _ hx
    have hr' := hr
    simp only [VRel] at hr
    obtain ⟨g, a', c', e, hg, _⟩ := hr
    have hg' : g = .func f := hg
    subst hg'
    simp only [e]
    rw [e] at hr'
    exact Out.value R hr'
  · rename_i l a c hx
    cases h
    have hr := hρ _ _ hx
    have hr' := hr
    simp only [VRel] at hr
    obtain ⟨g, a', c', e, ⟨N, d, _, rfl⟩, _⟩ := hr
    simp only [e]
    rw [e] at hr'
    exact Out.value R hr'
  · cases h

theorem exec_binOp (H : T.Ok P) (R : Rel B w₀ Q φ A w) {ρ : Operand → Option AV} {ρ' : Operand → Value} (hρ : ∀ x v, ρ x = some v → VRel φ v (ρ' x)) {op : BinOp} {t : TypeId} {x y : Operand} {c : TypeId} {dst : Option Tmp} {ty : TypeId} {pos : String} {after : Array Edge} {g : Option (Nat × Bool)} {r : ARes} (h : exec T ρ A (.binOp op t x y c) = some (r, A')) :
    Out P B w₀ Q φ w A' r (execOp ρ' ⟨dst, .binOp op t x y c, ty, pos, after, g⟩) := by
  unfold execOp
  dsimp only
  replace h : exBin T A op t (isConst x) (isConst y) (ρ x) (ρ y) = some (r, A') := h
  unfold exBin at h
  split at h
  · rename_i a ha
    split at h
    · rename_i b hb
      obtain ⟨v, hv, rfl, rfl⟩ := pure1_some h
      exact (binOp_run H R hv (hρ _ _ ha) (hρ _ _ hb)).out R
    · cases h
  · cases h

theorem exec_unOp (_H : T.Ok P) (R : Rel B w₀ Q φ A w) {ρ : Operand → Option AV} {ρ' : Operand → Value} (hρ : ∀ x v, ρ x = some v → VRel φ v (ρ' x)) {op : UnOp} {t : TypeId} {x : Operand} {dst : Option Tmp} {ty : TypeId} {pos : String} {after : Array Edge} {g : Option (Nat × Bool)} {r : ARes} (h : exec T ρ A (.unOp op t x) = some (r, A')) :
    Out P B w₀ Q φ w A' r (execOp ρ' ⟨dst, .unOp op t x, ty, pos, after, g⟩) := by
  unfold execOp
  dsimp only
  replace h : exUn A op (ρ x) = some (r, A') := h
  unfold exUn at h
  split at h
  · rename_i a ha
    obtain ⟨v, hv, rfl, rfl⟩ := pure1_some h
    exact (unOp_run hv (hρ _ _ ha)).out R
  · cases h

theorem exec_convert (H : T.Ok P) (R : Rel B w₀ Q φ A w) {ρ : Operand → Option AV} {ρ' : Operand → Value} (hρ : ∀ x v, ρ x = some v → VRel φ v (ρ' x)) {s d : TypeId} {x : Operand} {dst : Option Tmp} {ty : TypeId} {pos : String} {after : Array Edge} {g : Option (Nat × Bool)} {r : ARes} (h : exec T ρ A (.convert s d x) = some (r, A')) :
    Out P B w₀ Q φ w A' r (execOp ρ' ⟨dst, .convert s d x, ty, pos, after, g⟩) := by
  unfold execOp
  dsimp only
  replace h : exConvert T A s d (ρ x) = some (r, A') := h
  unfold exConvert at h
  split at h
  · rename_i a ha
    obtain ⟨v, hv, rfl⟩ := heap1_some h
    obtain ⟨rfl, hc⟩ := convert_run (P := P) (w := w) H hv (hρ _ _ ha)
    exact hc.out R
  · cases h

theorem exec_makeInterface (H : T.Ok P) (R : Rel B w₀ Q φ A w) {ρ : Operand → Option AV} {ρ' : Operand → Value} (hρ : ∀ x v, ρ x = some v → VRel φ v (ρ' x)) {t : TypeId} {x : Operand} {dst : Option Tmp} {ty : TypeId} {pos : String} {after : Array Edge} {g : Option (Nat × Bool)} {r : ARes} (h : exec T ρ A (.makeInterface t x) = some (r, A')) :
    Out P B w₀ Q φ w A' r (execOp ρ' ⟨dst, .makeInterface t x, ty, pos, after, g⟩) := by
  unfold execOp
  dsimp only
  replace h : exMakeInterface T A t (ρ x) = some (r, A') := h
  unfold exMakeInterface at h
  split at h
  · cases h
  · rename_i d hn hd
    split at h
    · rename_i v hv
      cases h
      refine ⟨φ, .iface t (ρ' x), w, ?_, φ.le_refl, R, by simp only [VRel]; exact ⟨_, rfl, hρ _ _ hv⟩⟩
      simp only [Instr.makeInterface, Sem.run_bind, H.run_und hd, Result.andThen_ok]
      cases d <;> first | rfl | exact absurd rfl (hn _)
    · cases h
  · cases h

theorem exec_makeFunc (_H : T.Ok P) (R : Rel B w₀ Q φ A w) {ρ : Operand → Option AV} {ρ' : Operand → Value} (hρ : ∀ x v, ρ x = some v → VRel φ v (ρ' x)) {f : Fn} {first captured : Array Operand} {dst : Option Tmp} {ty : TypeId} {pos : String} {after : Array Edge} {g : Option (Nat × Bool)} {r : ARes} (h : exec T ρ A (.makeFunc f first captured) = some (r, A')) :
    Out P B w₀ Q φ w A' r (execOp ρ' ⟨dst, .makeFunc f first captured, ty, pos, after, g⟩) := by
  unfold execOp
  dsimp only
  replace h : exMakeFunc ρ A f first.toList captured.toList = some (r, A') := h
  unfold exMakeFunc at h
  split at h
  · rename_i k
    split at h
    · rename_i a ha
      split at h
      · rename_i b hb
        cases h
        refine ⟨φ, .func (.func k) (first.map ρ') (captured.map ρ'), w, rfl, φ.le_refl, R, ?_⟩
        simp only [VRel]
        refine ⟨.func k, _, _, rfl, rfl, ?_, ?_⟩
        · simpa using evals_rel hρ ha
        · simpa using evals_rel hρ hb
      · cases h
    · cases h
  · cases h

theorem exec_makeMap (H : T.Ok P) (R : Rel B w₀ Q φ A w) {ρ : Operand → Option AV} {ρ' : Operand → Value} (hρ : ∀ x v, ρ x = some v → VRel φ v (ρ' x)) {t : TypeId} {x : Option Operand} {dst : Option Tmp} {ty : TypeId} {pos : String} {after : Array Edge} {g : Option (Nat × Bool)} {r : ARes} (h : exec T ρ A (.makeMap t x) = some (r, A')) :
    Out P B w₀ Q φ w A' r (execOp ρ' ⟨dst, .makeMap t x, ty, pos, after, g⟩) := by
  unfold execOp
  dsimp only
  cases x with
  | none =>
    replace h : newMap A = some (r, A') := h
    obtain ⟨b, rfl, hg⟩ := newMap_run (P := P) R h
    exact hg.out
  | some x =>
    replace h : exMakeMap T A t (ρ x) = some (r, A') := h
    unfold exMakeMap at h
    split at h
    · rename_i k n hx
      split at h
      · rename_i kt et hu
        obtain ⟨b, rfl, hg⟩ := newMap_run (P := P) R h
        have hxr := hρ _ _ hx
        simp only [VRel] at hxr
        obtain ⟨φ', v, w', g1, g2, g3, g4⟩ := hg
        refine ⟨φ', v, w', ?_, g2, g3, g4⟩
        simp only [Sem.run_bind] at g1
        simpa [Instr.makeMap, H.run_und hu, asInt, asIntOf, hxr] using g1
      · cases h
    · cases h

theorem exec_makeSlice (H : T.Ok P) (R : Rel B w₀ Q φ A w) {ρ : Operand → Option AV} {ρ' : Operand → Value} (hρ : ∀ x v, ρ x = some v → VRel φ v (ρ' x)) {t : TypeId} {l c : Operand} {dst : Option Tmp} {ty : TypeId} {pos : String} {after : Array Edge} {g : Option (Nat × Bool)} {r : ARes} (h : exec T ρ A (.makeSlice t l c) = some (r, A')) :
    Out P B w₀ Q φ w A' r (execOp ρ' ⟨dst, .makeSlice t l c, ty, pos, after, g⟩) := by
  unfold execOp
  dsimp only
  obtain ⟨v, rfl, hg⟩ := makeSlice_run (P := P) H R h (hρ l) (hρ c)
  exact hg.out

theorem exec_slice (H : T.Ok P) (R : Rel B w₀ Q φ A w) {ρ : Operand → Option AV} {ρ' : Operand → Value} (hρ : ∀ x v, ρ x = some v → VRel φ v (ρ' x)) {t : TypeId} {x : Operand} {lo hi mx : Option Operand} {dst : Option Tmp} {ty : TypeId} {pos : String} {after : Array Edge} {g : Option (Nat × Bool)} {r : ARes} (h : exec T ρ A (.slice t x lo hi mx) = some (r, A')) :
    Out P B w₀ Q φ w A' r (execOp ρ' ⟨dst, .slice t x lo hi mx, ty, pos, after, g⟩) := by
  unfold execOp
  dsimp only
  replace h : exSlice T ρ A t x lo hi mx = some (r, A') := h
  unfold exSlice at h
  split at h
  · rename_i a ha
    split at h
    · rename_i l hl
      split at h
      · rename_i hh hhh
        split at h
        · rename_i m hm
          obtain ⟨v, hv, rfl, rfl⟩ := pure1_some h
          exact (slice_run H hv (hρ _ _ ha) (evalOpt_rel hρ hl) (evalOpt_rel hρ hhh) (evalOpt_rel hρ hm)).out R
        · cases h
      · cases h
    · cases h
  · cases h

theorem exec_fieldAddr (H : T.Ok P) (R : Rel B w₀ Q φ A w) {ρ : Operand → Option AV} {ρ' : Operand → Value} (hρ : ∀ x v, ρ x = some v → VRel φ v (ρ' x)) {s : TypeId} {x : Operand} {f : Nat} {dst : Option Tmp} {ty : TypeId} {pos : String} {after : Array Edge} {g : Option (Nat × Bool)} {r : ARes} (h : exec T ρ A (.fieldAddr s x f) = some (r, A')) :
    Out P B w₀ Q φ w A' r (execOp ρ' ⟨dst, .fieldAddr s x f, ty, pos, after, g⟩) := by
  unfold execOp
  dsimp only
  replace h : exFieldAddr T A s (ρ x) f = some (r, A') := h
  unfold exFieldAddr at h
  split at h
  · rename_i a ha
    obtain ⟨v, hv, rfl, rfl⟩ := pure1_some h
    exact (fieldAddr_run H hv (hρ _ _ ha)).out R
  · cases h

theorem exec_field (H : T.Ok P) (R : Rel B w₀ Q φ A w) {ρ : Operand → Option AV} {ρ' : Operand → Value} (hρ : ∀ x v, ρ x = some v → VRel φ v (ρ' x)) {s : TypeId} {x : Operand} {f : Nat} {dst : Option Tmp} {ty : TypeId} {pos : String} {after : Array Edge} {g : Option (Nat × Bool)} {r : ARes} (h : exec T ρ A (.field s x f) = some (r, A')) :
    Out P B w₀ Q φ w A' r (execOp ρ' ⟨dst, .field s x f, ty, pos, after, g⟩) := by
  unfold execOp
  dsimp only
  replace h : exField T A s (ρ x) f = some (r, A') := h
  unfold exField at h
  split at h
  · rename_i a ha
    obtain ⟨v, hv, rfl, rfl⟩ := pure1_some h
    exact (field_run H hv (hρ _ _ ha)).out R
  · cases h

theorem exec_indexAddr (H : T.Ok P) (R : Rel B w₀ Q φ A w) {ρ : Operand → Option AV} {ρ' : Operand → Value} (hρ : ∀ x v, ρ x = some v → VRel φ v (ρ' x)) {t : TypeId} {x i : Operand} {dst : Option Tmp} {ty : TypeId} {pos : String} {after : Array Edge} {g : Option (Nat × Bool)} {r : ARes} (h : exec T ρ A (.indexAddr t x i) = some (r, A')) :
    Out P B w₀ Q φ w A' r (execOp ρ' ⟨dst, .indexAddr t x i, ty, pos, after, g⟩) := by
  unfold execOp
  dsimp only
  replace h : exIndexAddr T A t (ρ x) (ρ i) = some (r, A') := h
  unfold exIndexAddr at h
  split at h
  · rename_i a ha
    split at h
    · rename_i b hb
      obtain ⟨v, hv, rfl, rfl⟩ := pure1_some h
      exact (indexAddr_run H hv (hρ _ _ ha) (hρ _ _ hb)).out R
    · cases h
  · cases h

theorem exec_index (H : T.Ok P) (R : Rel B w₀ Q φ A w) {ρ : Operand → Option AV} {ρ' : Operand → Value} (hρ : ∀ x v, ρ x = some v → VRel φ v (ρ' x)) {t : TypeId} {x i : Operand} {dst : Option Tmp} {ty : TypeId} {pos : String} {after : Array Edge} {g : Option (Nat × Bool)} {r : ARes} (h : exec T ρ A (.index t x i) = some (r, A')) :
    Out P B w₀ Q φ w A' r (execOp ρ' ⟨dst, .index t x i, ty, pos, after, g⟩) := by
  unfold execOp
  dsimp only
  replace h : exIndex T A t (ρ x) (ρ i) = some (r, A') := h
  unfold exIndex at h
  split at h
  · rename_i a ha
    split at h
    · rename_i b hb
      obtain ⟨v, hv, rfl, rfl⟩ := pure1_some h
      exact (index_run H hv (hρ _ _ ha) (hρ _ _ hb)).out R
    · cases h
  · cases h

theorem exec_lookup (H : T.Ok P) (R : Rel B w₀ Q φ A w) {ρ : Operand → Option AV} {ρ' : Operand → Value} (hρ : ∀ x v, ρ x = some v → VRel φ v (ρ' x)) {t : TypeId} {x k : Operand} {ok : Bool} {dst : Option Tmp} {ty : TypeId} {pos : String} {after : Array Edge} {g : Option (Nat × Bool)} {r : ARes} (h : exec T ρ A (.lookup t x k ok) = some (r, A')) :
    Out P B w₀ Q φ w A' r (execOp ρ' ⟨dst, .lookup t x k ok, ty, pos, after, g⟩) := by
  unfold execOp
  dsimp only
  replace h : exLookup T A t (ρ x) (ρ k) ok = some (r, A') := h
  unfold exLookup at h
  split at h
  · rename_i a ha
    split at h
    · rename_i b hb
      obtain ⟨v, hv, rfl, rfl⟩ := pure1_some h
      exact (lookup_run H R hv (hρ _ _ ha) (hρ _ _ hb)).out R
    · cases h
  · cases h

theorem exec_mapUpdate (H : T.Ok P) (R : Rel B w₀ Q φ A w) {ρ : Operand → Option AV} {ρ' : Operand → Value} (hρ : ∀ x v, ρ x = some v → VRel φ v (ρ' x)) {t : TypeId} {m k x : Operand} {dst : Option Tmp} {ty : TypeId} {pos : String} {after : Array Edge} {g : Option (Nat × Bool)} {r : ARes} (h : exec T ρ A (.mapUpdate t m k x) = some (r, A')) :
    Out P B w₀ Q φ w A' r (execOp ρ' ⟨dst, .mapUpdate t m k x, ty, pos, after, g⟩) := by
  unfold execOp
  dsimp only
  replace h : exMapUpdate T A t (ρ m) (ρ k) (ρ x) = some (r, A') := h
  unfold exMapUpdate at h
  split at h
  · rename_i a ha
    split at h
    · rename_i b hb
      split at h
      · rename_i c hc
        obtain ⟨hs, rfl⟩ := skip1_some h
        exact (mapUpdate_run H R hs (hρ _ _ ha) (hρ _ _ hb) (hρ _ _ hc)).out
      · cases h
    · cases h
  · cases h

theorem exec_insert (H : T.Ok P) (R : Rel B w₀ Q φ A w) {ρ : Operand → Option AV} {ρ' : Operand → Value} (hρ : ∀ x v, ρ x = some v → VRel φ v (ρ' x)) {t : TypeId} {m k x : Operand} {dst : Option Tmp} {ty : TypeId} {pos : String} {after : Array Edge} {g : Option (Nat × Bool)} {r : ARes} (h : exec T ρ A (.insert t m k x) = some (r, A')) :
    Out P B w₀ Q φ w A' r (execOp ρ' ⟨dst, .insert t m k x, ty, pos, after, g⟩) := by
  unfold execOp
  dsimp only
  replace h : exMapUpdate T A t (ρ m) (ρ k) (ρ x) = some (r, A') := h
  unfold exMapUpdate at h
  split at h
  · rename_i a ha
    split at h
    · rename_i b hb
      split at h
      · rename_i c hc
        obtain ⟨hs, rfl⟩ := skip1_some h
        exact (mapUpdate_run H R hs (hρ _ _ ha) (hρ _ _ hb) (hρ _ _ hc)).out
      · cases h
    · cases h
  · cases h

theorem exec_mapEntry (H : T.Ok P) (R : Rel B w₀ Q φ A w) {ρ : Operand → Option AV} {ρ' : Operand → Value} (hρ : ∀ x v, ρ x = some v → VRel φ v (ρ' x)) {t : TypeId} {m k : Operand} {dst : Option Tmp} {ty : TypeId} {pos : String} {after : Array Edge} {g : Option (Nat × Bool)} {r : ARes} (h : exec T ρ A (.mapEntry t m k) = some (r, A')) :
    Out P B w₀ Q φ w A' r (execOp ρ' ⟨dst, .mapEntry t m k, ty, pos, after, g⟩) := by
  unfold execOp
  dsimp only
  replace h : exMapEntry T A t (ρ m) (ρ k) = some (r, A') := h
  unfold exMapEntry at h
  split at h
  · rename_i a ha
    split at h
    · rename_i b hb
      obtain ⟨v, hv, rfl⟩ := heap1_some h
      exact (mapEntry_run H R hv (hρ _ _ ha) (hρ _ _ hb)).out
    · cases h
  · cases h

theorem exec_entryStore (_H : T.Ok P) (R : Rel B w₀ Q φ A w) {ρ : Operand → Option AV} {ρ' : Operand → Value} (hρ : ∀ x v, ρ x = some v → VRel φ v (ρ' x)) {t : TypeId} {m s x : Operand} {dst : Option Tmp} {ty : TypeId} {pos : String} {after : Array Edge} {g : Option (Nat × Bool)} {r : ARes} (h : exec T ρ A (.entryStore t m s x) = some (r, A')) :
    Out P B w₀ Q φ w A' r (execOp ρ' ⟨dst, .entryStore t m s x, ty, pos, after, g⟩) := by
  unfold execOp
  dsimp only
  replace h : exEntryStore A (ρ m) (ρ s) (ρ x) = some (r, A') := h
  unfold exEntryStore at h
  split at h
  · rename_i a ha
    split at h
    · rename_i b hb
      split at h
      · rename_i c hc
        obtain ⟨hs, rfl⟩ := skip1_some h
        exact (entryStore_run R hs (hρ _ _ ha) (hρ _ _ hb) (hρ _ _ hc)).out
      · cases h
    · cases h
  · cases h

theorem exec_range (H : T.Ok P) (R : Rel B w₀ Q φ A w) {ρ : Operand → Option AV} {ρ' : Operand → Value} (hρ : ∀ x v, ρ x = some v → VRel φ v (ρ' x)) {t : TypeId} {x : Operand} {dst : Option Tmp} {ty : TypeId} {pos : String} {after : Array Edge} {g : Option (Nat × Bool)} {r : ARes} (h : exec T ρ A (.range t x) = some (r, A')) :
    Out P B w₀ Q φ w A' r (execOp ρ' ⟨dst, .range t x, ty, pos, after, g⟩) := by
  unfold execOp
  dsimp only
  obtain ⟨v, rfl, hg⟩ := exRange_run (P := P) H R h (hρ x)
  exact hg.out

theorem exec_next (_H : T.Ok P) (R : Rel B w₀ Q φ A w) {ρ : Operand → Option AV} {ρ' : Operand → Value} (hρ : ∀ x v, ρ x = some v → VRel φ v (ρ' x)) {it : Operand} {str : Bool} {dst : Option Tmp} {ty : TypeId} {pos : String} {after : Array Edge} {g : Option (Nat × Bool)} {r : ARes} (h : exec T ρ A (.next it str) = some (r, A')) :
    Out P B w₀ Q φ w A' r (execOp ρ' ⟨dst, .next it str, ty, pos, after, g⟩) := by
  unfold execOp
  dsimp only
  replace h : exNext A (ρ it) str = some (r, A') := h
  unfold exNext at h
  split at h
  · split at h
    · rename_i a ha
      obtain ⟨v, hv, rfl⟩ := heap1_some h
      exact (next_run R hv (hρ _ _ ha)).out
    · cases h
  · cases h

theorem exec_typeAssert (H : T.Ok P) (R : Rel B w₀ Q φ A w) {ρ : Operand → Option AV} {ρ' : Operand → Value} (hρ : ∀ x v, ρ x = some v → VRel φ v (ρ' x)) {x : Operand} {xt t : TypeId} {ok : Bool} {dst : Option Tmp} {ty : TypeId} {pos : String} {after : Array Edge} {g : Option (Nat × Bool)} {r : ARes} (h : exec T ρ A (.typeAssert x xt t ok) = some (r, A')) :
    Out P B w₀ Q φ w A' r (execOp ρ' ⟨dst, .typeAssert x xt t ok, ty, pos, after, g⟩) := by
  unfold execOp
  dsimp only
  replace h : exTypeAssert T A (ρ x) t ok = some (r, A') := h
  unfold exTypeAssert at h
  split at h
  · rename_i a ha
    obtain ⟨v, hv, rfl, rfl⟩ := pure1_some h
    exact (typeAssert_run H hv (hρ _ _ ha)).out R
  · cases h

theorem exec_extract (_H : T.Ok P) (R : Rel B w₀ Q φ A w) {ρ : Operand → Option AV} {ρ' : Operand → Value} (hρ : ∀ x v, ρ x = some v → VRel φ v (ρ' x)) {t : Operand} {i : Nat} {dst : Option Tmp} {ty : TypeId} {pos : String} {after : Array Edge} {g : Option (Nat × Bool)} {r : ARes} (h : exec T ρ A (.extract t i) = some (r, A')) :
    Out P B w₀ Q φ w A' r (execOp ρ' ⟨dst, .extract t i, ty, pos, after, g⟩) := by
  unfold execOp
  dsimp only
  replace h : exExtract A (ρ t) i = some (r, A') := h
  unfold exExtract at h
  split at h
  · rename_i vs hvs
    obtain ⟨v, hv, rfl, rfl⟩ := pure1_some h
    exact (extract_run hv (hρ _ _ hvs)).out R
  · cases h

theorem exec_call (H : T.Ok P) (R : Rel B w₀ Q φ A w) {ρ : Operand → Option AV} {ρ' : Operand → Value} (hρ : ∀ x v, ρ x = some v → VRel φ v (ρ' x)) {c : Call} {dst : Option Tmp} {ty : TypeId} {pos : String} {after : Array Edge} {g : Option (Nat × Bool)} {r : ARes} (h : exec T ρ A (.call c) = some (r, A')) :
    Out P B w₀ Q φ w A' r (execOp ρ' ⟨dst, .call c, ty, pos, after, g⟩) := by
  unfold execOp
  dsimp only
  exact exCall_run H R hρ h

theorem exec_defer (_H : T.Ok P) (R : Rel B w₀ Q φ A w) {ρ : Operand → Option AV} {ρ' : Operand → Value} (hρ : ∀ x v, ρ x = some v → VRel φ v (ρ' x)) {c : Call} {dst : Option Tmp} {ty : TypeId} {pos : String} {after : Array Edge} {g : Option (Nat × Bool)} {r : ARes} (h : exec T ρ A (.defer c) = some (r, A')) :
    Out P B w₀ Q φ w A' r (execOp ρ' ⟨dst, .defer c, ty, pos, after, g⟩) := by
  unfold execOp
  dsimp only
  obtain ⟨d, e, rfl, rfl, h1, h2⟩ := exDefer_run (P := P) (w := w) (ty := ty) hρ h
  exact ⟨e, by simp only [Sem.run_bind, h1, Result.andThen_ok, Sem.run_pure], h2, R⟩

theorem exec_panic (_H : T.Ok P) (R : Rel B w₀ Q φ A w) {ρ : Operand → Option AV} {ρ' : Operand → Value} (hρ : ∀ x v, ρ x = some v → VRel φ v (ρ' x)) {x : Operand} {dst : Option Tmp} {ty : TypeId} {pos : String} {after : Array Edge} {g : Option (Nat × Bool)} {r : ARes} (h : exec T ρ A (.panic x) = some (r, A')) :
    Out P B w₀ Q φ w A' r (execOp ρ' ⟨dst, .panic x, ty, pos, after, g⟩) := by
  unfold execOp
  dsimp only
  replace h : exPanic A (ρ x) = some (r, A') := h
  unfold exPanic at h
  split at h
  · rename_i t v hx
    cases h
    have hxr := hρ _ _ hx
    have hxr' := hxr
    simp only [VRel] at hxr
    obtain ⟨y, e, hy⟩ := hxr
    rw [e] at hxr'
    exact ⟨_, by simp [e, Instr.panic], hxr', R⟩
  · cases h

theorem exec_run (H : T.Ok P) (R : Rel B w₀ Q φ A w) {ρ : Operand → Option AV} {ρ' : Operand → Value} (hρ : ∀ x v, ρ x = some v → VRel φ v (ρ' x)) {o : Oper} {r : ARes} (h : exec T ρ A o.op = some (r, A')) : Out P B w₀ Q φ w A' r (execOp ρ' o) := by
  obtain ⟨dst, op, ty, pos, after, g⟩ := o
  cases op
  case move x => exact exec_move H R hρ (dst := dst) (ty := ty) (pos := pos) (after := after) (g := g) h
  case assign x => exact exec_assign H R hρ (dst := dst) (ty := ty) (pos := pos) (after := after) (g := g) h
  case pick c a b => exact exec_pick H R hρ (dst := dst) (ty := ty) (pos := pos) (after := after) (g := g) h
  case alloc elem => exact exec_alloc H R hρ (dst := dst) (ty := ty) (pos := pos) (after := after) (g := g) h
  case box elem x => exact exec_box H R hρ (dst := dst) (ty := ty) (pos := pos) (after := after) (g := g) h
  case build t parts => exact exec_build H R hρ (dst := dst) (ty := ty) (pos := pos) (after := after) (g := g) h
  case buildSlice t n parts => exact exec_buildSlice H R hρ (dst := dst) (ty := ty) (pos := pos) (after := after) (g := g) h
  case load t a => exact exec_load H R hρ (dst := dst) (ty := ty) (pos := pos) (after := after) (g := g) h
  case store t a x => exact exec_store H R hρ (dst := dst) (ty := ty) (pos := pos) (after := after) (g := g) h
  case nilCheck x => exact exec_nilCheck H R hρ (dst := dst) (ty := ty) (pos := pos) (after := after) (g := g) h
  case binOp op t x y c => exact exec_binOp H R hρ (dst := dst) (ty := ty) (pos := pos) (after := after) (g := g) h
  case unOp op t x => exact exec_unOp H R hρ (dst := dst) (ty := ty) (pos := pos) (after := after) (g := g) h
  case convert s d x => exact exec_convert H R hρ (dst := dst) (ty := ty) (pos := pos) (after := after) (g := g) h
  case makeInterface t x => exact exec_makeInterface H R hρ (dst := dst) (ty := ty) (pos := pos) (after := after) (g := g) h
  case makeFunc f first captured => exact exec_makeFunc H R hρ (dst := dst) (ty := ty) (pos := pos) (after := after) (g := g) h
  case makeMap t x => exact exec_makeMap H R hρ (dst := dst) (ty := ty) (pos := pos) (after := after) (g := g) h
  case makeSlice t l c => exact exec_makeSlice H R hρ (dst := dst) (ty := ty) (pos := pos) (after := after) (g := g) h
  case slice t x lo hi mx => exact exec_slice H R hρ (dst := dst) (ty := ty) (pos := pos) (after := after) (g := g) h
  case fieldAddr s x f => exact exec_fieldAddr H R hρ (dst := dst) (ty := ty) (pos := pos) (after := after) (g := g) h
  case field s x f => exact exec_field H R hρ (dst := dst) (ty := ty) (pos := pos) (after := after) (g := g) h
  case indexAddr t x i => exact exec_indexAddr H R hρ (dst := dst) (ty := ty) (pos := pos) (after := after) (g := g) h
  case index t x i => exact exec_index H R hρ (dst := dst) (ty := ty) (pos := pos) (after := after) (g := g) h
  case lookup t x k ok => exact exec_lookup H R hρ (dst := dst) (ty := ty) (pos := pos) (after := after) (g := g) h
  case mapUpdate t m k x => exact exec_mapUpdate H R hρ (dst := dst) (ty := ty) (pos := pos) (after := after) (g := g) h
  case insert t m k x => exact exec_insert H R hρ (dst := dst) (ty := ty) (pos := pos) (after := after) (g := g) h
  case mapEntry t m k => exact exec_mapEntry H R hρ (dst := dst) (ty := ty) (pos := pos) (after := after) (g := g) h
  case entryStore t m s x => exact exec_entryStore H R hρ (dst := dst) (ty := ty) (pos := pos) (after := after) (g := g) h
  case range t x => exact exec_range H R hρ (dst := dst) (ty := ty) (pos := pos) (after := after) (g := g) h
  case next it str => exact exec_next H R hρ (dst := dst) (ty := ty) (pos := pos) (after := after) (g := g) h
  case typeAssert x xt t ok => exact exec_typeAssert H R hρ (dst := dst) (ty := ty) (pos := pos) (after := after) (g := g) h
  case extract t i => exact exec_extract H R hρ (dst := dst) (ty := ty) (pos := pos) (after := after) (g := g) h
  case call c => exact exec_call H R hρ (dst := dst) (ty := ty) (pos := pos) (after := after) (g := g) h
  case defer c => exact exec_defer H R hρ (dst := dst) (ty := ty) (pos := pos) (after := after) (g := g) h
  case panic x => exact exec_panic H R hρ (dst := dst) (ty := ty) (pos := pos) (after := after) (g := g) h
  all_goals cases h
end
end Go.Abs
