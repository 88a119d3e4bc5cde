/- Plain regions: one operation behind the other. -/
import Derived.Test.YtfgefjpgmfjmjaaGreatDoorAbsFr
namespace Go.Abs
open Go.RowKit (Below)

section
variable {T : Tabs} {P : Program} {B : Nat} {Q : List Nat} {w₀ w w' : World} {φ ψ : Inj} {A A' : AHeap}

/-! Steps of the model at an operation -/

section
variable {fn : FuncId} {tmps : Array Value} {ops : Array Oper} {i : Nat} {is : List Nat} {k : List Item} {defers : List Deferred} {kind : CallKind} {ro : Option Nat} {cs : List Frame} {o : Oper}

theorem stepG_oper (ho : ops[i]? = some o) (hw : Region.wanted o (yielded ops tmps) = true) (hd : ro = none ∨ ∀ c, o.op ≠ .defer c) :
    stepG P true { frame := ⟨fn, tmps, .inRegion ops (i :: is) :: k, defers, .run, kind, ro⟩, callers := cs, status := .running, dying := none } w =
      stepG.apply P true ⟨fn, tmps, .inRegion ops (i :: is) :: k, defers, .run, kind, ro⟩ cs none (execOp (Frame.eval ⟨fn, tmps, .inRegion ops (i :: is) :: k, defers, .run, kind, ro⟩) o) w := by
  simp only [stepG, stepG.exec, ho, Option.map_some, Option.getD_some, hw, if_true, stepG.oper, Frame.oper?]
  rcases hd with rfl | hd
  · rfl
  · obtain ⟨dst, op, ty, pos, after, g⟩ := o
    cases ro with
    | none => rfl
    | some l => cases op <;> first | rfl | exact absurd rfl (hd _)

theorem step_val {v : Value} (ho : ops[i]? = some o) (hw : Region.wanted o (yielded ops tmps) = true) (hd : ro = none ∨ ∀ c, o.op ≠ .defer c)
    (hr : (execOp (Frame.eval ⟨fn, tmps, .inRegion ops (i :: is) :: k, defers, .run, kind, ro⟩) o).run P w = .ok (.value v) w') :
    Go.step P (lone ⟨fn, tmps, .inRegion ops (i :: is) :: k, defers, .run, kind, ro⟩ cs w) =
      .next (lone (Frame.finish ⟨fn, tmps, .inRegion ops (i :: is) :: k, defers, .run, kind, ro⟩ v) cs w') :=
  step_lone_go (by rw [stepG_oper ho hw hd]; simp [stepG.apply, hr])
theorem step_skipped (ho : ops[i]? = some o) (hw : Region.wanted o (yielded ops tmps) = true) (hd : ro = none ∨ ∀ c, o.op ≠ .defer c)
    (hr : (execOp (Frame.eval ⟨fn, tmps, .inRegion ops (i :: is) :: k, defers, .run, kind, ro⟩) o).run P w = .ok .skip w') :
    Go.step P (lone ⟨fn, tmps, .inRegion ops (i :: is) :: k, defers, .run, kind, ro⟩ cs w) =
      .next (lone (Frame.finish ⟨fn, tmps, .inRegion ops (i :: is) :: k, defers, .run, kind, ro⟩ undef) cs w') :=
  step_lone_go (by rw [stepG_oper ho hw hd]; simp [stepG.apply, hr])
theorem step_unwanted (ho : ops[i]? = some o) (hw : Region.wanted o (yielded ops tmps) = false) :
    Go.step P (lone ⟨fn, tmps, .inRegion ops (i :: is) :: k, defers, .run, kind, ro⟩ cs w) =
      .next (lone (Frame.finish ⟨fn, tmps, .inRegion ops (i :: is) :: k, defers, .run, kind, ro⟩ undef) cs w) :=
  step_lone_go (by simp [stepG, stepG.exec, ho, hw])
theorem step_regionEnd :
    Go.step P (lone ⟨fn, tmps, .inRegion ops [] :: k, defers, .run, kind, ro⟩ cs w) = .next (lone ⟨fn, tmps, k, defers, .run, kind, ro⟩ cs w) :=
  step_lone_go (by simp [stepG, stepG.exec])
theorem finish_op {v : Value} (ho : ops[i]? = some o) :
    Frame.finish ⟨fn, tmps, .inRegion ops (i :: is) :: k, defers, .run, kind, ro⟩ v = ⟨fn, (match o.dst with | some d => tmps.setIfInBounds d v | none => tmps), .inRegion ops is :: k, defers, .run, kind, ro⟩ := by
  simp only [Frame.finish, ho, Option.bind_some]
  cases o.dst <;> rfl
end

/-! Slots -/

theorem srcOf_nil (t : Tmp) : srcOf t [] = none := rfl

theorem undef_rel (φ : Inj) : VRel φ .undef undef := by
  simp only [AV.undef, VRel, undef]
  exact ⟨#[], rfl, by simp [LRel]⟩

theorem getD_setIfInBounds (l : Array Value) (d t : Nat) (v : Value) (hd : d < l.size) : (l.setIfInBounds d v).getD t undef = if t = d then v else l.getD t undef := by
  by_cases h : t = d
  · subst h
    rw [if_pos rfl]
    simp [Array.getD_eq_getD_getElem?, hd]
  · rw [if_neg h]
    simp only [Array.getD_eq_getD_getElem?]
    rw [Array.getElem?_setIfInBounds_ne (Ne.symm h)]

/-- An operand in a plain region. -/
theorem evalIn_rel (G : GlobOk T φ) {prev : List (Option Tmp)} {vals : List AV} {tmps : Tree AV} {fr : Frame} (h : ∀ t, ∃ a, tmpIn vals tmps t (srcOf t prev) = some a ∧ VRel φ a (fr.tmps.getD t undef)) :
    ∀ x v, evalIn T prev vals tmps x = some v → VRel φ v (fr.eval x) := by
  intro x v hx
  cases x with
  | tmp t =>
    obtain ⟨a, ha, hr⟩ := h t
    have : tmpIn vals tmps t (srcOf t prev) = some v := hx
    rw [ha] at this; cases this
    exact hr
  | const c => exact toAV_rel c v hx
  | global g =>
    have hx' : sel (Nat.blt g T.glob) (some (AV.ptr g 0)) none = some v := hx
    cases hb : Nat.blt g T.glob with
    | false => rw [hb] at hx'; cases hx'
    | true =>
      rw [hb] at hx'
      have hx'' : some (AV.ptr g 0) = some v := hx'
      cases hx''
      simp only [VRel, Frame.eval]
      exact ⟨g, 0, 0, G g (by simpa using hb), rfl, rfl⟩
  | func f =>
    have hx' : some (AV.fn (.func f) [] []) = some v := hx
    cases hx'
    simp only [VRel, Frame.eval]
    exact ⟨_, _, _, rfl, rfl, by simp [LRel], by simp [LRel]⟩

noncomputable def srcAt (t : Tmp) (prev : List (Option Tmp)) (i : Nat) : Option Nat :=
  List.rec (motive := fun _ => Nat → Option Nat) (fun _ => none)
    (fun d _ ih i => sel (Option.rec (motive := fun _ => Bool) false (fun d => Nat.beq d t) d) (some i) (ih (Nat.succ i))) prev i
theorem srcOf_at (t : Tmp) (prev : List (Option Tmp)) : srcOf t prev = srcAt t prev 0 := rfl
theorem srcAt_nil (t : Tmp) (i : Nat) : srcAt t [] i = none := rfl
theorem srcAt_none (t : Tmp) (prev : List (Option Tmp)) (i : Nat) : srcAt t (none :: prev) i = srcAt t prev (i + 1) := rfl
theorem srcAt_same (t : Tmp) (prev : List (Option Tmp)) (i : Nat) : srcAt t (some t :: prev) i = some i := by
  show sel (Nat.beq t t) (some i) (srcAt t prev (i + 1)) = some i
  rw [Nat.beq_refl]
theorem srcAt_other (t : Tmp) {d : Tmp} (h : d ≠ t) (prev : List (Option Tmp)) (i : Nat) : srcAt t (some d :: prev) i = srcAt t prev (i + 1) := by
  show sel (Nat.beq d t) (some i) (srcAt t prev (i + 1)) = _
  cases hb : Nat.beq d t with
  | true => exact absurd (Nat.eq_of_beq_eq_true hb) h
  | false => rfl
theorem srcAt_succ (t : Tmp) : ∀ (prev : List (Option Tmp)) (i : Nat), srcAt t prev (i + 1) = (srcAt t prev i).map (· + 1)
  | [], _ => rfl
  | none :: r, i => by rw [srcAt_none, srcAt_none, srcAt_succ t r (i + 1)]
  | some d :: r, i => by
    by_cases h : d = t
    · subst h; rw [srcAt_same, srcAt_same]; rfl
    · rw [srcAt_other t h, srcAt_other t h, srcAt_succ t r (i + 1)]
theorem srcOf_none (t : Tmp) (prev : List (Option Tmp)) : srcOf t (none :: prev) = (srcOf t prev).map (· + 1) := by
  rw [srcOf_at, srcAt_none, srcAt_succ, srcOf_at]
theorem srcOf_same (t : Tmp) (prev : List (Option Tmp)) : srcOf t (some t :: prev) = some 0 := srcAt_same t prev 0
theorem srcOf_other (t : Tmp) {d : Tmp} (h : d ≠ t) (prev : List (Option Tmp)) : srcOf t (some d :: prev) = (srcOf t prev).map (· + 1) := by
  rw [srcOf_at, srcAt_other t h, srcAt_succ, srcOf_at]
theorem tmpIn_none (vals : List AV) (tmps : Tree AV) (t : Tmp) : tmpIn vals tmps t none = some (getTmp tmps t) := rfl
theorem tmpIn_some (vals : List AV) (tmps : Tree AV) (t : Tmp) (k : Nat) : tmpIn vals tmps t (some k) = nth vals k := rfl
theorem tmpIn_succ (a : AV) (vals : List AV) (tmps : Tree AV) (t : Tmp) (x : Option Nat) : tmpIn (a :: vals) tmps t (x.map (· + 1)) = tmpIn vals tmps t x := by
  cases x <;> rfl

/-! What is kept behind a region -/

theorem putKept_get (keep : Tree Unit) (tmps : Tree AV) (t : Tmp) (v : AV) (u : Tmp) : getTmp (putKept keep tmps t v) u = if u = t ∧ (keep.get t).isSome then v else getTmp tmps u := by
  unfold putKept
  cases hk : keep.get t with
  | none => simp
  | some x =>
    show getTmp (tmps.put t (some v)) u = _
    rw [getTmp_put]
    simp
theorem putKept_ok {keep : Tree Unit} {tmps : Tree AV} (h : KeepOk keep tmps) (t : Tmp) (v : AV) : KeepOk keep (putKept keep tmps t v) := by
  intro u hu
  rw [putKept_get]
  split
  · rename_i hc
    obtain ⟨rfl, hs⟩ := hc
    rw [hu] at hs; cases hs
  · exact h u hu
theorem keepVals_nil (keep : Tree Unit) (tmps : Tree AV) (vals : List AV) : keepVals keep tmps [] vals = tmps := rfl
theorem keepVals_none (keep : Tree Unit) (tmps : Tree AV) (prev : List (Option Tmp)) (v : AV) (vals : List AV) : keepVals keep tmps (none :: prev) (v :: vals) = keepVals keep tmps prev vals := rfl
theorem keepVals_some (keep : Tree Unit) (tmps : Tree AV) (t : Tmp) (prev : List (Option Tmp)) (v : AV) (vals : List AV) : keepVals keep tmps (some t :: prev) (v :: vals) = putKept keep (keepVals keep tmps prev vals) t v := rfl
theorem keepVals_ok {keep : Tree Unit} {tmps : Tree AV} (h : KeepOk keep tmps) : ∀ {prev : List (Option Tmp)} {vals : List AV}, prev.length = vals.length → KeepOk keep (keepVals keep tmps prev vals)
  | [], _, _ => by rw [keepVals_nil]; exact h
  | _ :: _, [], hl => by simp at hl
  | none :: r, v :: vals, hl => by rw [keepVals_none]; exact keepVals_ok h (by simpa using hl)
  | some t :: r, v :: vals, hl => by rw [keepVals_some]; exact putKept_ok (keepVals_ok h (by simpa using hl)) t v
theorem keepVals_get {keep : Tree Unit} {tmps : Tree AV} (h : KeepOk keep tmps) (u : Tmp) : ∀ {prev : List (Option Tmp)} {vals : List AV}, prev.length = vals.length →
    getTmp (keepVals keep tmps prev vals) u = .any ∨ tmpIn vals tmps u (srcOf u prev) = some (getTmp (keepVals keep tmps prev vals) u)
  | [], _, _ => by rw [keepVals_nil, srcOf_nil, tmpIn_none]; exact .inr rfl
  | _ :: _, [], hl => by simp at hl
  | none :: r, v :: vals, hl => by
    rw [keepVals_none, srcOf_none, tmpIn_succ]
    exact keepVals_get h u (by simpa using hl)
  | some t :: r, v :: vals, hl => by
    have hl' : r.length = vals.length := by simpa using hl
    rw [keepVals_some, putKept_get]
    by_cases hu : u = t
    · subst hu
      cases hk : keep.get u with
      | some x => rw [if_pos ⟨rfl, rfl⟩, srcOf_same, tmpIn_some]; exact .inr rfl
      | none =>
        rw [if_neg (by simp)]
        exact .inl (keepVals_ok h hl' u hk)
    · rw [if_neg (fun hc => hu hc.1), srcOf_other u (Ne.symm hu), tmpIn_succ]
      exact keepVals_get h u hl'

/-! Guards -/

theorem VRel_bool {a : AV} {b : Bool} (h : VRel φ a (.bool b)) : a = .bool b ∨ a = .any := by
  cases a <;> simp only [VRel] at h <;> first
    | (cases h; exact .inl rfl) | exact .inr rfl | (cases h; done) | (obtain ⟨_, h, _⟩ := h; cases h; done) | (obtain ⟨_, _, h, _⟩ := h; cases h; done) | (obtain ⟨_, _, _, h, _⟩ := h; cases h; done)
    | (obtain ⟨_, _, _, _, _, h⟩ := h; cases h; done) | (obtain ⟨_, _, _, h⟩ := h; cases h; done)

theorem yielded_of {ops : Array Oper} {tmps : Array Value} {j : Nat} {b : Bool} {p : Oper} {d : Tmp} (hp : ops[j]? = some p) (hd : p.dst = some d) (h : tmps.getD d undef = .bool b) : yielded ops tmps j = some b := by
  unfold yielded
  rw [hp, Option.bind_some, hd, Option.bind_some]
  have : tmps[d]? = some (.bool b) := by
    rw [Array.getD_eq_getD_getElem?] at h
    cases hx : tmps[d]? with
    | none => rw [hx] at h; cases h
    | some v => rw [hx] at h; simp at h; rw [h]
  rw [this]
theorem yielded_not {ops : Array Oper} {tmps : Array Value} {j : Nat} {p : Oper} {d : Tmp} (hp : ops[j]? = some p) (hd : p.dst = some d) (h : ∀ b, tmps.getD d undef ≠ .bool b) : yielded ops tmps j = none := by
  unfold yielded
  rw [hp, Option.bind_some, hd, Option.bind_some]
  split
  · rename_i b hb
    exact absurd (by rw [Array.getD_eq_getD_getElem?, hb]; rfl) (h b)
  · rfl

theorem nth_array {α : Type} (ops : Array α) (j : Nat) : nth ops.toList j = ops[j]? := by rw [nth_eq, Array.getElem?_toList]

theorem wantedBy_rel {want b : Bool} {a : AV} {v : Value} (h : wantedBy want (some a) = some b) (hr : VRel φ a v) : (∃ c, v = .bool c ∧ boolEq c want = b) ∨ ((∀ c, v ≠ .bool c) ∧ b = false) := by
  unfold wantedBy at h
  split at h
  · rename_i c hc
    cases hc; cases h
    simp only [VRel] at hr
    exact .inl ⟨c, hr, rfl⟩
  · cases h
  · rename_i hc; cases hc
  · rename_i h1 h2 _
    cases h
    refine .inr ⟨fun c hv => ?_, rfl⟩
    subst hv
    rcases VRel_bool hr with rfl | rfl
    · exact h1 _ rfl
    · exact h2 rfl

theorem wanted_rel {ops : Array Oper} {prev : List (Option Tmp)} {vals : List AV} {tmps : Tree AV} {tmps' : Array Value} {o : Oper} {b : Bool} (h : ∀ t, ∃ a, tmpIn vals tmps t (srcOf t prev) = some a ∧ VRel φ a (tmps'.getD t undef))
    (hw : wanted T ops prev vals tmps o.guard = some b) : Region.wanted o (yielded ops tmps') = b := by
  unfold wanted at hw
  unfold Region.wanted
  cases hg : o.guard with
  | none => rw [hg] at hw; cases hw; rfl
  | some g =>
    obtain ⟨j, want⟩ := g
    rw [hg] at hw
    replace hw : Option.rec (motive := fun _ => Option Bool) (some false) (fun d => wantedBy want (evalIn T prev vals tmps (.tmp d))) (dstAt ops.toList j) = some b := hw
    show (yielded ops tmps' j == some want) = b
    cases hd : dstAt ops.toList j with
    | none =>
      rw [hd] at hw
      cases hw
      have : yielded ops tmps' j = none := by
        unfold dstAt at hd
        rw [nth_array] at hd
        unfold yielded
        cases hp : ops[j]? with
        | none => rfl
        | some p =>
          rw [hp] at hd
          replace hd : p.dst = none := hd
          rw [Option.bind_some, hd]; rfl
      rw [this]; rfl
    | some d =>
      rw [hd] at hw
      obtain ⟨a, ha, hr⟩ := h d
      replace hw : wantedBy want (tmpIn vals tmps d (srcOf d prev)) = some b := hw
      rw [ha] at hw
      obtain ⟨p, hp, hpd⟩ : ∃ p, ops[j]? = some p ∧ p.dst = some d := by
        unfold dstAt at hd
        rw [nth_array] at hd
        cases hp : ops[j]? with
        | none => rw [hp] at hd; cases hd
        | some p => rw [hp] at hd; exact ⟨p, rfl, hd⟩
      rcases wantedBy_rel hw hr with ⟨c, hv, hb⟩ | ⟨hn, rfl⟩
      · rw [yielded_of hp hpd hv, ← hb]
        cases c <;> cases want <;> rfl
      · rw [yielded_not hp hpd hn]; rfl

/-! A row of operations -/

theorem exec_defer_is {ρ : Operand → Option AV} {c : Call} {r : ARes} (h : exec T ρ A (.defer c) = some (r, A')) : ∃ d, r = .defer d := by
  obtain ⟨callee, ⟨args⟩, ⟨ts⟩⟩ := c
  replace h : exDefer ρ A ⟨callee, ⟨args⟩, ⟨ts⟩⟩ = some (r, A') := h
  unfold exDefer at h
  simp only at h
  split at h
  · unfold exDeferOf at h
    split at h
    · split at h
      · cases h; exact ⟨_, rfl⟩
      · cases h
    · cases h
  · cases h
theorem not_defer {ρ : Operand → Option AV} {op : Op} {r : ARes} (h : exec T ρ A op = some (r, A')) (hr : ∀ d, r ≠ .defer d) : ∀ c, op ≠ .defer c := by
  rintro c rfl
  obtain ⟨d, rfl⟩ := exec_defer_is h
  exact hr d rfl

theorem RegRel.next {nt : Nat} {ops : Array Oper} {o : Oper} {rest : List Oper} {prev : List (Option Tmp)} {vals : List AV} {tmps : Tree AV} {tmps' : Array Value} {is : List Nat}
    (r : RegRel φ nt ops (o :: rest) prev vals tmps tmps' is) (hn : tmps'.size = nt) (h : φ.le ψ) {a : AV} {v : Value} (hv : VRel ψ a v) :
    ∃ i is', is = i :: is' ∧ ops[i]? = some o ∧ RegRel ψ nt ops rest (o.dst :: prev) (a :: vals) tmps (match o.dst with | some d => tmps'.setIfInBounds d v | none => tmps') is' := by
  obtain ⟨done, h1, h2, h3, h4, h5, h6⟩ := r
  refine ⟨done.length, List.range' (done.length + 1) rest.length, by rw [h4, List.length_cons, List.range'_succ], ?_, done ++ [o], by rw [h1]; simp, ?_, by simp [h3], by simp, h5, ?_⟩
  · rw [← Array.getElem?_toList, h1]; simp
  · rw [h2]; simp
  · intro t
    obtain ⟨b, hb, hr⟩ := h6 t
    cases hd : o.dst with
    | none =>
      refine ⟨b, ?_, hr.mono h⟩
      rw [srcOf_none, tmpIn_succ]; exact hb
    | some d =>
      have hdn : d < nt := by
        have hin : ∀ (l : List Oper), dstsIn nt l = true → o ∈ l → d < nt := by
          intro l
          induction l with
          | nil => intro _ hm; cases hm
          | cons p l ih =>
            intro hl hm
            simp only [dstsIn, Bool.and_eq_true] at hl
            rcases List.mem_cons.1 hm with rfl | hm
            · have := hl.1
              rw [hd] at this
              simpa using this
            · exact ih hl.2 hm
        exact hin _ h5 (by rw [h1]; simp)
      by_cases ht : d = t
      · subst ht
        refine ⟨a, by rw [srcOf_same, tmpIn_some]; rfl, ?_⟩
        rw [getD_setIfInBounds _ _ _ _ (by rw [hn]; exact hdn), if_pos rfl]; exact hv
      · refine ⟨b, by rw [srcOf_other t ht, tmpIn_succ]; exact hb, ?_⟩
        rw [getD_setIfInBounds _ _ _ _ (by rw [hn]; exact hdn), if_neg (Ne.symm ht)]; exact hr.mono h

theorem runOps_nil (keep : Tree Unit) (ops : Array Oper) (tmps : Tree AV) (prev : List (Option Tmp)) (vals : List AV) (A : AHeap) : runOps T keep ops tmps [] prev vals A = .done (keepVals keep tmps prev vals) A := rfl
theorem runOps_cons (keep : Tree Unit) (ops : Array Oper) (tmps : Tree AV) (o : Oper) (rest : List Oper) (prev : List (Option Tmp)) (vals : List AV) (A : AHeap) :
    runOps T keep ops tmps (o :: rest) prev vals A = oneOp T ops o rest prev (runOps T keep ops tmps rest (o.dst :: prev)) tmps vals A := rfl

/-- What a row of operations comes to, in the model. -/
def ROut (P : Program) (B : Nat) (w₀ : World) (Q : List Nat) (φ : Inj) (nt : Nat) (keep : Tree Unit) (ops : Array Oper) (tmps : Tree AV) (fn : FuncId) (k : List Item) (defers : List Deferred) (kind : CallKind) (ro : Option Nat) (cs : List Frame) (m : Machine) : RRes → Prop
  | .done t A' => ∃ φ' tmps'' w', φ.le φ' ∧ Rel B w₀ Q φ' A' w' ∧ TRel φ' t tmps'' ∧ tmps''.size = nt ∧ KeepOk keep t ∧ Steps P m (lone ⟨fn, tmps'', k, defers, .run, kind, ro⟩ cs w')
  | .stop rest prev vals r A' => ∃ φ' tmps'' w' is i o, φ.le φ' ∧ ops[i]? = some o ∧ Region.wanted o (yielded ops tmps'') = true ∧ RegRel φ' nt ops rest prev vals tmps tmps'' (i :: is) ∧ tmps''.size = nt ∧
      Out P B w₀ Q φ' w' A' r (execOp (Frame.eval ⟨fn, tmps'', .inRegion ops (i :: is) :: k, defers, .run, kind, ro⟩) o) ∧ (∀ v, r ≠ .val v) ∧ r ≠ .skip ∧ ((∀ d, r ≠ .defer d) → ∀ c, o.op ≠ .defer c) ∧
      Steps P m (lone ⟨fn, tmps'', .inRegion ops (i :: is) :: k, defers, .run, kind, ro⟩ cs w')
  | .fail => True

theorem ROut.of_steps {nt : Nat} {keep : Tree Unit} {ops : Array Oper} {tmps : Tree AV} {fn : FuncId} {k : List Item} {defers : List Deferred} {kind : CallKind} {ro : Option Nat} {cs : List Frame} {m m₁ : Machine} {r : RRes}
    (hle : φ.le ψ) (hs : Steps P m m₁) (h : ROut P B w₀ Q ψ nt keep ops tmps fn k defers kind ro cs m₁ r) : ROut P B w₀ Q φ nt keep ops tmps fn k defers kind ro cs m r := by
  cases r with
  | fail => trivial
  | done t A' =>
    obtain ⟨φ', tmps'', w', h1, h2, h3, h4, h5, h6⟩ := h
    exact ⟨φ', tmps'', w', Inj.le_trans hle h1, h2, h3, h4, h5, hs.trans h6⟩
  | stop rest prev vals r A' =>
    obtain ⟨φ', tmps'', w', is, i, o, h1, h2, h3, h4, h5, h6, h7, h8, h9, h10⟩ := h
    exact ⟨φ', tmps'', w', is, i, o, Inj.le_trans hle h1, h2, h3, h4, h5, h6, h7, h8, h9, hs.trans h10⟩

theorem runOps_run (H : T.Ok P) {nt : Nat} {keep : Tree Unit} {ops : Array Oper} {tmps : Tree AV} {fn : FuncId} {k : List Item} {defers : List Deferred} {kind : CallKind} {ro : Option Nat} {cs : List Frame} (hk : KeepOk keep tmps) :
    ∀ (rest : List Oper) {φ : Inj} {prev : List (Option Tmp)} {vals : List AV} {A : AHeap} {w : World} {tmps' : Array Value} {is : List Nat}, GlobOk T φ → Rel B w₀ Q φ A w → tmps'.size = nt → RegRel φ nt ops rest prev vals tmps tmps' is →
      ROut P B w₀ Q φ nt keep ops tmps fn k defers kind ro cs (lone ⟨fn, tmps', .inRegion ops is :: k, defers, .run, kind, ro⟩ cs w) (runOps T keep ops tmps rest prev vals A) := by
  intro rest
  induction rest with
  | nil =>
    intro φ prev vals A w tmps' is G R hn hr
    rw [runOps_nil]
    obtain ⟨done, h1, h2, h3, h4, h5, h6⟩ := hr
    have hl : prev.length = vals.length := by rw [h2, h3]; simp
    refine ⟨φ, tmps', w, φ.le_refl, R, ?_, hn, keepVals_ok hk hl, ?_⟩
    · intro t
      obtain ⟨a, ha, hr⟩ := h6 t
      rcases keepVals_get hk t hl with h | h
      · rw [h]; simp only [VRel]
      · rw [ha] at h; cases h; exact hr
    · rw [h4]
      exact Steps.one step_regionEnd
  | cons o rest ih =>
    intro φ prev vals A w tmps' is G R hn hr
    rw [runOps_cons]
    unfold oneOp
    cases hw : wanted T ops prev vals tmps o.guard with
    | none => trivial
    | some b =>
      have h6 : ∀ t, ∃ a, tmpIn vals tmps t (srcOf t prev) = some a ∧ VRel φ a (tmps'.getD t undef) := by
        obtain ⟨done, h1, h2, h3, h4, h5, h6⟩ := hr; exact h6
      have hwant := wanted_rel (T := T) (o := o) h6 hw
      have put_size : ∀ v, (match o.dst with | some d => tmps'.setIfInBounds d v | none => tmps').size = nt := by
        intro v; cases o.dst <;> simp [hn]
      cases b with
      | false =>
        show ROut P B w₀ Q φ nt keep ops tmps fn k defers kind ro cs _ (runOps T keep ops tmps rest (o.dst :: prev) (.undef :: vals) A)
        obtain ⟨i, is', rfl, ho, hr'⟩ := hr.next hn φ.le_refl (undef_rel φ)
        refine ROut.of_steps φ.le_refl (Steps.one ?_) (ih G R (put_size _) hr')
        rw [step_unwanted ho hwant, finish_op ho]
      | true =>
        show ROut P B w₀ Q φ nt keep ops tmps fn k defers kind ro cs _ (ranOpt o rest prev vals (runOps T keep ops tmps rest (o.dst :: prev)) (exec T (evalIn T prev vals tmps) A o.op))
        cases he : exec T (evalIn T prev vals tmps) A o.op with
        | none => trivial
        | some p =>
          obtain ⟨r, A'⟩ := p
          show ROut P B w₀ Q φ nt keep ops tmps fn k defers kind ro cs _ (ranOp o rest prev vals (runOps T keep ops tmps rest (o.dst :: prev)) r A')
          obtain ⟨i₀, is₀, his, ho, _⟩ := hr.next hn φ.le_refl (undef_rel φ)
          subst his
          have hout := exec_run H R (evalIn_rel (T := T) G (fr := ⟨fn, tmps', .inRegion ops (i₀ :: is₀) :: k, defers, .run, kind, ro⟩) h6) (o := o) he
          cases r with
          | val v =>
            obtain ⟨φ', v', w', g1, g2, g3, g4⟩ := hout
            obtain ⟨i, is', e, ho', hr'⟩ := hr.next hn g2 g4
            cases e
            show ROut P B w₀ Q φ nt keep ops tmps fn k defers kind ro cs _ (runOps T keep ops tmps rest (o.dst :: prev) (v :: vals) A')
            refine ROut.of_steps g2 (Steps.one ?_) (ih (G.mono g2) g3 (put_size _) hr')
            rw [step_val ho hwant (.inr (not_defer he (by intro d h; cases h))) g1, finish_op ho]
          | skip =>
            obtain ⟨φ', w', g1, g2, g3⟩ := hout
            obtain ⟨i, is', e, ho', hr'⟩ := hr.next hn g2 (undef_rel φ')
            cases e
            show ROut P B w₀ Q φ nt keep ops tmps fn k defers kind ro cs _ (runOps T keep ops tmps rest (o.dst :: prev) (.undef :: vals) A')
            refine ROut.of_steps g2 (Steps.one ?_) (ih (G.mono g2) g3 (put_size _) hr')
            rw [step_skipped ho hwant (.inr (not_defer he (by intro d h; cases h))) g1, finish_op ho]
          | enter f args => exact ⟨φ, tmps', w, is₀, i₀, o, φ.le_refl, ho, hwant, hr, hn, hout, (by intro v h; cases h), (by intro h; cases h), not_defer he, Steps.refl _ _⟩
          | round l args => exact ⟨φ, tmps', w, is₀, i₀, o, φ.le_refl, ho, hwant, hr, hn, hout, (by intro v h; cases h), (by intro h; cases h), not_defer he, Steps.refl _ _⟩
          | defer d => exact ⟨φ, tmps', w, is₀, i₀, o, φ.le_refl, ho, hwant, hr, hn, hout, (by intro v h; cases h), (by intro h; cases h), not_defer he, Steps.refl _ _⟩
          | recover => exact ⟨φ, tmps', w, is₀, i₀, o, φ.le_refl, ho, hwant, hr, hn, hout, (by intro v h; cases h), (by intro h; cases h), not_defer he, Steps.refl _ _⟩
          | panic v => exact ⟨φ, tmps', w, is₀, i₀, o, φ.le_refl, ho, hwant, hr, hn, hout, (by intro v h; cases h), (by intro h; cases h), not_defer he, Steps.refl _ _⟩
end
end Go.Abs
