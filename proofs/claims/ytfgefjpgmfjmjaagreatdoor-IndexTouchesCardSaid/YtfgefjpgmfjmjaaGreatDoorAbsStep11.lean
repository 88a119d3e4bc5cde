/- Steps of a whole machine: loops over functions. -/
import Derived.Test.YtfgefjpgmfjmjaaGreatDoorAbsStep10
namespace Go.Abs
open Go.RowKit (Below)

section
variable {T : Tabs} {P : Program} {B : Nat} {Q : List Nat} {w₀ w w' : World} {φ ψ : Inj} {A A' : AHeap} {f : FuncId} {cs₀ : List Frame}
variable {base : ABase} {tmps : Tree AV} {k : List AItem} {defers : List ADefer} {cs : List AFrame} {cs' : List Frame} {fn : FuncId} {tmps' : Array Value} {k' : List Item} {rd : List Deferred} {kind : CallKind} {ro : Option Nat}

theorem newObj_run {o : Obj} : (newObj o).run P w = .ok w.heap.size (w.alloc o) := rfl

theorem st_beginRound {l : Nat} (h : (Instr.beginRound l).run P w = .ok () w') :
    Go.step P (lone ⟨fn, tmps', .beginRound :: k', rd, .run, kind, some l⟩ cs₀ w) = .next (lone ⟨fn, tmps', k', rd, .run, kind, some l⟩ cs₀ w') :=
  step_lone_go (by simp [stepG, stepG.exec, stepG.apply, h, Frame.finish])
theorem st_endLoop {l : Nat} {j : Option Code} (h : (Instr.endLoop l).run P w = .ok j w') :
    Go.step P (lone ⟨fn, tmps', .endRangeFunc l :: k', rd, .run, kind, ro⟩ cs₀ w) = .next (lone ⟨fn, tmps', (j.map Item.code).toList ++ k', rd, .run, kind, ro⟩ cs₀ w') :=
  step_lone_go (by simp [stepG, stepG.exec, h])
theorem st_rangeFunc {x : Operand} {ps : Array Tmp} {assign body : Code} {N : Nat} {mark : List Deferred} {w₁ w₂ : World} {g : FuncId} {vs : Array Value} (h1 : (Instr.enterLoop fn tmps' ps assign body ro).run P w = .ok (N, mark) w₁)
    (h2 : (do let d ← resolve (Frame.eval ⟨fn, tmps', .inRangeFunc N :: k', mark ++ rd, .run, kind, ro⟩) { callee := .value x, args := #[.const (.func (.yield N) #[] #[])], argTypes := #[] } 0; Go.invoke d.target d.args : Sem Next).run P w₁ = .ok (.enter g vs) w₂) :
    Go.step P (lone ⟨fn, tmps', .code (.rangeFunc x ps assign body) :: k', rd, .run, kind, ro⟩ cs₀ w) = .next (lone (Frame.enter P g vs .normal) (⟨fn, tmps', .inRangeFunc N :: k', mark ++ rd, .run, kind, ro⟩ :: cs₀) w₂) :=
  step_lone_go (by
    simp only [stepG, stepG.exec, stepG.apply]
    simp [h1]
    simp at h2
    simp [h2])

theorem begin_sim (G : GlobOk T φ) (F : FRel φ [] false ⟨base, tmps, .beginRound :: k, defers, .run⟩ ⟨fn, tmps', .beginRound :: k', rd, .run, kind, ro⟩) (hk : KRel φ k k') (ht : TRel φ tmps tmps')
    (S : SRel φ Q cs cs') (R : Rel B w₀ Q φ A w) (hn : Q.Nodup) (hb : Bot f base cs) :
    SOut P T B w₀ f cs₀ (lone ⟨fn, tmps', .beginRound :: k', rd, .run, kind, ro⟩ (cs' ++ cs₀) w) (stepBegin base tmps defers cs A k) := by
  have hround := F.round
  unfold stepBegin
  split
  · rename_i l hro
    rw [show (AFrame.mk base tmps (.beginRound :: k) defers .run).base.roundOf = some l from hro] at hround
    obtain ⟨N, d, hφ, hr⟩ := hround
    replace hr : ro = some N := hr
    subst hr
    split
    · rename_i r hg
      have hg' := getLoop_some hg
      obtain ⟨r', hr', hL⟩ := loop_of R hg' hφ
      cases hst : isReady r.state with
      | false => trivial
      | true =>
        have hs : r'.state = .ready := by
          rw [hL.1]
          cases hx : r.state <;> rw [hx] at hst <;> first | rfl | cases hst
        have hp : r'.pending = r.pending := hL.2.1
        have R' := loop_set R hg' hφ hL .busy r.pending
        have hrun : (Instr.beginRound N).run P w = .ok () { w with heap := w.heap.setIfInBounds N (.loop { r' with state := .busy, pending := r.pending }) } := by
          simp [Instr.beginRound, getLoop_run hr', setObj_run hr' (by intro _ _ _ h; cases h), hs, ← hp]
        exact ⟨_, Steps.one (st_beginRound hrun), φ, [], Q, _, cs', _, rfl, G, ⟨F.fn, F.kind, F.nt, F.own, F.keep, F.round, F.defers, rfl, TodoRel.of_K hk ht⟩, S, R', hn, hb⟩
    · trivial
  · trivial

theorem endRange_sim (G : GlobOk T φ) {l N : Nat} {d : Int} (hφ : φ l = some (N, d)) (F : FRel φ [] false ⟨base, tmps, .endRangeFunc l :: k, defers, .run⟩ ⟨fn, tmps', .endRangeFunc N :: k', rd, .run, kind, ro⟩) (hk : KRel φ k k') (ht : TRel φ tmps tmps')
    (S : SRel φ Q cs cs') (R : Rel B w₀ Q φ A w) (hn : Q.Nodup) (hb : Bot f base cs) :
    SOut P T B w₀ f cs₀ (lone ⟨fn, tmps', .endRangeFunc N :: k', rd, .run, kind, ro⟩ (cs' ++ cs₀) w) (stepEndRange base tmps defers cs A l k) := by
  unfold stepEndRange
  split
  · rename_i r hg
    have hg' := getLoop_some hg
    obtain ⟨r', hr', hL⟩ := loop_of R hg' hφ
    cases hst : isBusy r.state with
    | true => trivial
    | false =>
      have hs : ¬ r'.state = .busy := by
        rw [hL.1]
        cases hx : r.state <;> rw [hx] at hst <;> first | (intro h; cases h; done) | cases hst
      have hp : r'.pending = r.pending := hL.2.1
      have R' := loop_set R hg' hφ hL .exhausted r.pending
      have hrun : (Instr.endLoop N).run P w = .ok r.pending { w with heap := w.heap.setIfInBounds N (.loop { r' with state := .exhausted, pending := r.pending }) } := by
        simp [Instr.endLoop, getLoop_run hr', setObj_run hr' (by intro _ _ _ h; cases h), hs, ← hp]
      have hk' : KRel φ (match r.pending with | some c => .code c :: k | none => k) ((r.pending.map Item.code).toList ++ k') := by
        cases r.pending with
        | none => exact hk
        | some c => exact .cons rfl hk
      exact ⟨_, Steps.one (st_endLoop hrun), φ, [], Q, _, cs', _, rfl, G, ⟨F.fn, F.kind, F.nt, F.own, F.keep, F.round, F.defers, rfl, TodoRel.of_K hk' ht⟩, S, R', hn, hb⟩
  · trivial

theorem callRange_sim (H : T.Ok P) (G : GlobOk T φ) {l N : Nat} {d : Int} (hφ : φ l = some (N, d)) {x : Operand} {m : Machine} (F : FRel φ [] true ⟨base, tmps, .inRangeFunc l :: k, defers, .run⟩ ⟨fn, tmps', .inRangeFunc N :: k', rd, .run, kind, ro⟩) (ht : TRel φ tmps tmps')
    (S : SRel φ Q cs cs') (R : Rel B w₀ Q φ A w) (hn : Q.Nodup) (hb : Bot f base cs)
    (hs : ∀ g vs w₂, (do let d ← resolve (Frame.eval ⟨fn, tmps', .inRangeFunc N :: k', rd, .run, kind, ro⟩) { callee := .value x, args := #[.const (.func (.yield N) #[] #[])], argTypes := #[] } 0; Go.invoke d.target d.args : Sem Next).run P w = .ok (.enter g vs) w₂ →
      Go.step P m = .next (lone (Frame.enter P g vs .normal) (⟨fn, tmps', .inRangeFunc N :: k', rd, .run, kind, ro⟩ :: (cs' ++ cs₀)) w₂)) :
    SOut P T B w₀ f cs₀ m (callRange T base tmps defers cs A l (evalOp T tmps x) k) := by
  unfold callRange
  split
  · rename_i g first captured hx
    have hv := evalOp_rel (fr := ⟨fn, tmps', .inRangeFunc N :: k', rd, .run, kind, ro⟩) G ht x _ hx
    simp only [VRel] at hv
    obtain ⟨g', a', c', e, hg, h1, h2⟩ := hv
    split
    · rename_i h args A₁ hi
      have ha : LRel φ (first ++ [.fn (.yield l) [] []]) (a' ++ #[Value.func (.yield N) #[] #[]]).toList := by
        rw [Array.toList_append]
        refine h1.append ?_
        simp only [LRel, VRel]
        exact ⟨_, _, rfl, ⟨_, _, _, rfl, ⟨N, d, hφ, rfl⟩, rfl, rfl⟩, rfl⟩
      obtain ⟨vs, k1, k2, k3⟩ := invoke_run (P := P) H R hi hg h2 ha
      have hrun : (do let d ← resolve (Frame.eval ⟨fn, tmps', .inRangeFunc N :: k', rd, .run, kind, ro⟩) { callee := .value x, args := #[.const (.func (.yield N) #[] #[])], argTypes := #[] } 0; Go.invoke d.target d.args : Sem Next).run P w = .ok (.enter h vs) w := by
        simp only [resolve, e, Deferred.ofValue]
        simpa [Frame.eval] using k1
      unfold enterStep
      split
      · rename_i c hc
        obtain ⟨F', e1, e2, e3, e4⟩ := enter_rel H hc k2
        refine ⟨_, Steps.one (hs _ _ _ hrun), φ, [], [] ++ Q, _, _ :: cs', w, rfl, G, F', .cons F S, k3, hn, ?_⟩
        exact ⟨fun _ => rfl, fun h => (by rw [e2] at h; cases h), hb⟩
      · trivial
    · trivial
  · trivial

theorem rangeFunc_sim (H : T.Ok P) (G : GlobOk T φ) {x : Operand} {ps : Array Tmp} {assign body : Code} (F : FRel φ [] false ⟨base, tmps, .code (.rangeFunc x ps assign body) :: k, defers, .run⟩ ⟨fn, tmps', .code (.rangeFunc x ps assign body) :: k', rd, .run, kind, ro⟩) (hk : KRel φ k k') (ht : TRel φ tmps tmps')
    (S : SRel φ Q cs cs') (R : Rel B w₀ Q φ A w) (hn : Q.Nodup) (hb : Bot f base cs) :
    SOut P T B w₀ f cs₀ (lone ⟨fn, tmps', .code (.rangeFunc x ps assign body) :: k', rd, .run, kind, ro⟩ (cs' ++ cs₀) w) (stepRangeFunc T base tmps defers cs A x ps.toList assign body k) := by
  have hround := F.round
  have hfn : fn = base.fn := F.fn
  have hnt : tmps'.size = base.nt := F.nt
  unfold stepRangeFunc
  split
  · rename_i hro
    rw [show (AFrame.mk base tmps (.code (.rangeFunc x ps assign body) :: k) defers .run).base.roundOf = none from hro] at hround
    replace hround : ro = none := hround
    subst hround
    obtain ⟨le1, e1, R1⟩ := new_rel (o := .defd (some [])) (r := .deferred (some [])) R ⟨some [], rfl, .nil⟩ (by intro _ _ _ _ _ _ h; cases h)
    cases hA1 : A.new (.defd (some [])) with
    | mk dd A1 =>
      rw [hA1] at e1 R1
      simp only at e1 R1
      subst e1
      simp only
      have hd1 : (φ.put A.next (w.heap.size, 0) 0) A.next = some (w.heap.size, 0) := Inj.put_self _ _ _ _
      have hL : LoopRel ((φ.put A.next (w.heap.size, 0) 0).put A1.next ((w.alloc (.deferred (some []))).heap.size, 0) 0) ⟨.ready, none, base.fn, tmps, base.nt, base.keep, ps.toList, assign, body, A.next⟩
          { state := .ready, pending := none, fn, tmps := tmps', params := ps, assign, body, defers := w.heap.size } := by
        have hle := Inj.le_put (φ := φ.put A.next (w.heap.size, 0) 0) ((w.alloc (.deferred (some []))).heap.size, 0) 0 (R1.fresh A1.next (Nat.le_refl _)).1
        exact ⟨rfl, rfl, hfn, (ht.mono le1).mono hle, hnt, F.keep, rfl, rfl, rfl, _, _, (hle _ _ hd1).1, rfl⟩
      obtain ⟨le2, e2, R2⟩ := new_rel (o := .loop ⟨.ready, none, base.fn, tmps, base.nt, base.keep, ps.toList, assign, body, A.next⟩) (r := .loop { state := .ready, pending := none, fn, tmps := tmps', params := ps, assign, body, defers := w.heap.size }) R1 ⟨_, rfl, hL⟩ (by intro _ _ _ _ _ _ h; cases h)
      cases hA2 : A1.new (.loop ⟨.ready, none, base.fn, tmps, base.nt, base.keep, ps.toList, assign, body, A.next⟩) with
      | mk ll A2 =>
        rw [hA2] at e2 R2
        simp only at e2 R2
        subst e2
        simp only
        have le := Inj.le_trans le1 le2
        have hφl : ((φ.put A.next (w.heap.size, 0) 0).put A1.next ((w.alloc (.deferred (some []))).heap.size, 0) 0) A1.next = some ((w.alloc (.deferred (some []))).heap.size, 0) := Inj.put_self _ _ _ _
        have hrun : (Instr.enterLoop fn tmps' ps assign body none).run P w = .ok ((w.alloc (.deferred (some []))).heap.size, [{ target := .collected w.heap.size, args := #[] }])
            ((w.alloc (.deferred (some []))).alloc (.loop { state := .ready, pending := none, fn, tmps := tmps', params := ps, assign, body, defers := w.heap.size })) := by
          simp [Instr.enterLoop]
        refine callRange_sim H (G.mono le) hφl ⟨F.fn, F.kind, F.nt, F.own, F.keep, F.round.mono le, .cons ⟨_, _, (le2 _ _ hd1).1, rfl⟩ (F.defers.mono le), rfl, TodoRel.of_K (nt := base.nt) (wait := true) (.cons (a := .inRangeFunc _) (i := .inRangeFunc _) ⟨_, _, hφl, rfl⟩ (hk.mono le)) (ht.mono le)⟩ (ht.mono le) (S.mono le) R2 hn hb ?_
        intro g vs w₂ h
        exact st_rangeFunc hrun h
  · rename_i o hro
    rw [show (AFrame.mk base tmps (.code (.rangeFunc x ps assign body) :: k) defers .run).base.roundOf = some o from hro] at hround
    obtain ⟨N, d, hφ, hr⟩ := hround
    replace hr : ro = some N := hr
    subst hr
    split
    · rename_i r hg
      have hg' := getLoop_some hg
      obtain ⟨r', hr', hLr⟩ := loop_of R hg' hφ
      obtain ⟨_, _, _, _, _, _, _, _, _, DN, Dd, hD, hDe⟩ := hLr
      have hL : LoopRel (φ.put A.next (w.heap.size, 0) 0) ⟨.ready, none, base.fn, tmps, base.nt, base.keep, ps.toList, assign, body, r.defers⟩
          { state := .ready, pending := none, fn, tmps := tmps', params := ps, assign, body, defers := r'.defers } := by
        have hle := Inj.le_put (φ := φ) (w.heap.size, 0) 0 (R.fresh A.next (Nat.le_refl _)).1
        exact ⟨rfl, rfl, hfn, ht.mono hle, hnt, F.keep, rfl, rfl, rfl, _, _, (hle _ _ hD).1, hDe⟩
      obtain ⟨le, e2, R2⟩ := new_rel (o := .loop ⟨.ready, none, base.fn, tmps, base.nt, base.keep, ps.toList, assign, body, r.defers⟩) (r := .loop { state := .ready, pending := none, fn, tmps := tmps', params := ps, assign, body, defers := r'.defers }) R ⟨_, rfl, hL⟩ (by intro _ _ _ _ _ _ h; cases h)
      cases hA2 : A.new (.loop ⟨.ready, none, base.fn, tmps, base.nt, base.keep, ps.toList, assign, body, r.defers⟩) with
      | mk ll A2 =>
        rw [hA2] at e2 R2
        simp only at e2 R2
        subst e2
        simp only
        have hφl : (φ.put A.next (w.heap.size, 0) 0) A.next = some (w.heap.size, 0) := Inj.put_self _ _ _ _
        have hrun : (Instr.enterLoop fn tmps' ps assign body (some N)).run P w = .ok (w.heap.size, [])
            (w.alloc (.loop { state := .ready, pending := none, fn, tmps := tmps', params := ps, assign, body, defers := r'.defers })) := by
          simp [Instr.enterLoop, getLoop_run hr']
        refine callRange_sim H (G.mono le) hφl ⟨F.fn, F.kind, F.nt, F.own, F.keep, F.round.mono le, F.defers.mono le, rfl, TodoRel.of_K (nt := base.nt) (wait := true) (.cons (a := .inRangeFunc _) (i := .inRangeFunc _) ⟨_, _, hφl, rfl⟩ (hk.mono le)) (ht.mono le)⟩ (ht.mono le) (S.mono le) R2 hn hb ?_
        intro g vs w₂ h
        exact st_rangeFunc (mark := []) hrun h
    · trivial
end
end Go.Abs
