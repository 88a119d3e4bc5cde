/- Steps of a whole machine: leaving a frame. -/
import Derived.Test.YtfgefjpgmfjmjaaGreatDoorAbsStep4
namespace Go.Abs
open Go.RowKit (Below)

section
variable {T : Tabs} {P : Program} {B : Nat} {Q : List Nat} {w₀ w w' : World} {φ ψ : Inj} {A A' : AHeap} {f : FuncId} {cs₀ : List Frame}

/-- A value for the caller. -/
theorem give_sim (G : GlobOk T φ) {base : ABase} {cs : List AFrame} {cs' : List Frame} {m : Machine} (S : SRel φ Q cs cs') (R : Rel B w₀ Q φ A w) (hn : Q.Nodup) (hb : Bot f base cs) (hk : base.kind = .normal) (hne : cs ≠ []) {v : AV} {v' : Value} (hv : VRel φ v v')
    (hs : ∀ c cs₁, cs' = c :: cs₁ → Steps P m (lone (c.finish v') (cs₁ ++ cs₀) w)) : SOut P T B w₀ f cs₀ m (giveTo cs v A) := by
  cases S with
  | nil => exact absurd rfl hne
  | @cons q₁ Q₁ a c cs₁ cs₁' hf hS =>
    obtain ⟨abase, tmps, todo, defers, mode⟩ := a
    obtain ⟨h1, _, h2⟩ := hb
    have hm : mode = .run := h1 hk
    subst hm
    exact SOut.value G hf hS R hn h2 hv (hs _ _ rfl)

theorem loop_set (R : Rel B w₀ Q φ A w) {l N : Nat} {d : Int} {r : ALoop} {r' : Loop} (h : A.objs.get l = some (.loop r)) (hφ : φ l = some (N, d)) (hL : LoopRel φ r r') (st : LoopState) (pend : Option Code) :
    Rel B w₀ Q φ (setLoop A l r st pend) { w with heap := w.heap.setIfInBounds N (.loop { r' with state := st, pending := pend }) } := by
  obtain ⟨s0, p0, fn, tmps, nt, keep, params, assign, body, defers⟩ := r
  obtain ⟨e1, e2, e3, e4, e5, e6, e7, e8, e9, e10⟩ := hL
  exact R.setObj h hφ ⟨_, rfl, rfl, rfl, e3, e4, e5, e6, e7, e8, e9, e10⟩ (by intro _ _ _ _ _ _ h; cases h) (by intro _ _ _ _ _ _ h; cases h)

theorem endRound_run {N : Nat} {r : Loop} (h : w.heap[N]? = some (.loop r)) (jump : Option Code) :
    (Instr.endRound N jump).run P w = .ok (.bool jump.isNone) { w with heap := w.heap.setIfInBounds N (.loop { r with state := if jump.isNone then .ready else .done, pending := jump }) } := by
  simp only [Instr.endRound, Sem.run_bind, getLoop_run h, Result.andThen_ok, setObj_run h (by intro _ _ _ h; cases h), Sem.run_pure]

/-- Leaving a frame's code. -/
theorem leave_sim (G : GlobOk T φ) {base : ABase} {tmps : Tree AV} {todo : List AItem} {defers : List ADefer} {cs : List AFrame} {cs' : List Frame} {fr : Frame} {wait : Bool}
    (F : FRel φ [] wait ⟨base, tmps, todo, defers, .run⟩ fr) (ht : TRel φ tmps fr.tmps) (S : SRel φ Q cs cs') (R : Rel B w₀ Q φ A w) (hn : Q.Nodup) (hb : Bot f base cs) (jump : Option Code)
    (h0 : fr.roundOf = none → (jump = none ∨ jump = some .ret) → Go.step P (lone fr (cs' ++ cs₀) w) = .next (lone { fr with mode := .returning } (cs' ++ cs₀) w))
    (h1 : ∀ l c cs₁ v w', fr.roundOf = some l → cs' = c :: cs₁ → fr.kind = .normal → (Instr.endRound l jump).run P w = .ok v w' → Go.step P (lone fr (cs' ++ cs₀) w) = .next (lone (c.finish v) (cs₁ ++ cs₀) w')) :
    SOut P T B w₀ f cs₀ (lone fr (cs' ++ cs₀) w) (leave base tmps defers cs A jump) := by
  have hround := F.round
  unfold leave
  split
  · rename_i hro
    rw [show (AFrame.mk base tmps todo defers .run).base.roundOf = none from hro] at hround
    have hr : fr.roundOf = none := hround
    have fin : (jump = none ∨ jump = some .ret) → SOut P T B w₀ f cs₀ (lone fr (cs' ++ cs₀) w) (.cont ⟨⟨base, tmps, [], defers, .returning⟩, cs, A⟩) := fun hj =>
      ⟨_, Steps.one (h0 hr hj), φ, [], Q, _, cs', w, rfl, G, ⟨F.fn, F.kind, F.nt, F.own, F.keep, F.round, F.defers, rfl, rfl, ht⟩, S, R, hn, hb⟩
    split
    · exact fin (.inl rfl)
    · exact fin (.inr rfl)
    · trivial
  · rename_i l hro
    have hk : base.kind = .normal := F.own (by show base.roundOf ≠ none; rw [hro]; intro h; cases h)
    have hne : cs ≠ [] := by
      rintro rfl
      have : base.roundOf = none := hb.2.2
      rw [hro] at this; cases this
    rw [show (AFrame.mk base tmps todo defers .run).base.roundOf = some l from hro] at hround
    obtain ⟨N, d, hφ, hr⟩ := hround
    split
    · rename_i r hg
      have hg' := getLoop_some hg
      obtain ⟨r', hr', hL⟩ := loop_of R hg' hφ
      have hk' : fr.kind = .normal := by rw [F.kind]; exact hk
      split
      · have R' := loop_set R hg' hφ hL .ready none
        refine give_sim G S R' hn hb hk hne (v' := .bool true) (by simp only [VRel]) fun c cs₁ e => Steps.one ?_
        exact h1 N c cs₁ _ _ hr e hk' (endRound_run hr' none)
      · rename_i j
        have R' := loop_set R hg' hφ hL .done (some j)
        refine give_sim G S R' hn hb hk hne (v' := .bool false) (by simp only [VRel]) fun c cs₁ e => Steps.one ?_
        exact h1 N c cs₁ _ _ hr e hk' (endRound_run hr' (some j))
    · trivial

/-! Results -/

theorem results_list (H : T.Ok P) (R : Rel B w₀ Q φ A w) {tmps : Tree AV} {tmps' : Array Value} (ht : TRel φ tmps tmps') : ∀ {rs : List ResultVar} {l : List AV}, resultsOf T A tmps rs = some l →
    ∃ vs : List Value, (rs.mapM (m := Sem) fun
      | .tmp t => pure (tmps'.getD t undef)
      | .cell a t => do Go.loadVar t (← asAddr (tmps'.getD a undef))).run P w = .ok vs w ∧ LRel φ l vs
  | [], l, h => by
    cases h
    exact ⟨[], rfl, by simp only [LRel]⟩
  | .tmp t :: r, l, h => by
    unfold resultsOf at h
    split at h
    · rename_i l' hl'
      cases h
      obtain ⟨vs, h1, h2⟩ := results_list H R ht hl'
      refine ⟨tmps'.getD t undef :: vs, ?_, by simp only [LRel]; exact ⟨_, _, rfl, ht t, h2⟩⟩
      simp only [List.mapM_cons, Sem.run_bind, Sem.run_pure, Result.andThen_ok, h1]
    · cases h
  | .cell a t :: r, l, h => by
    unfold resultsOf at h
    split at h
    · rename_i b o hb
      split at h
      · rename_i v l' hv hl'
        cases h
        obtain ⟨vs, h1, h2⟩ := results_list H R ht hl'
        have hta := ht a
        rw [hb] at hta
        obtain ⟨v', hv1, hv2⟩ := loadVar_run (P := P) H R hv hta
        simp only [VRel] at hta
        obtain ⟨N, d, off, _, _, e⟩ := hta
        refine ⟨v' :: vs, ?_, by simp only [LRel]; exact ⟨_, _, rfl, hv2, h2⟩⟩
        rw [e] at hv1
        have hld : (Go.loadVar t ⟨N, off, none⟩).run P w = .ok v' w := by
          simpa [Instr.loadAt, Instr.sureAddr] using hv1
        have ha : (asAddr (tmps'.getD a undef)).run P w = .ok ⟨N, off, none⟩ w := by rw [e]; rfl
        simp only [List.mapM_cons, Sem.run_bind, ha, Sem.run_pure, Result.andThen_ok, hld, h1]
      · cases h
    · cases h

theorem results_run (H : T.Ok P) (R : Rel B w₀ Q φ A w) {tmps : Tree AV} {tmps' : Array Value} (ht : TRel φ tmps tmps') {fn : Func} {v : AV} (h : results T A tmps fn.results.toList = some v) : ∃ v', (Go.results fn tmps').run P w = .ok v' w ∧ VRel φ v v' := by
  unfold results at h
  have key : ∀ l, resultsOf T A tmps fn.results.toList = some l → ∃ vs : List Value, (Go.results fn tmps').run P w = .ok (if h : vs.toArray.size = 1 then vs.toArray[0] else .tuple vs.toArray) w ∧ LRel φ l vs := by
    intro l hl
    obtain ⟨vs, h1, h2⟩ := results_list H R ht hl
    refine ⟨vs, ?_, h2⟩
    unfold Go.results
    simp only [Array.mapM_eq_mapM_toList, Sem.run_bind, Sem.run_map, Sem.run_pure]
    erw [h1]
    rfl
  split at h
  · rename_i x hl
    cases h
    obtain ⟨vs, h1, h2⟩ := key _ hl
    simp only [LRel] at h2
    obtain ⟨y, z, rfl, hy, rfl⟩ := h2
    exact ⟨y, by simpa using h1, hy⟩
  · rename_i l hnot hl
    cases h
    obtain ⟨vs, h1, h2⟩ := key _ hl
    have hlen := h2.length
    have : ¬ (vs.toArray.size = 1) := by
      rw [List.size_toArray, hlen]
      intro h1
      match l, h1 with
      | [x], _ => exact hnot x rfl
    rw [dif_neg this] at h1
    exact ⟨_, h1, by simp only [VRel]; exact ⟨_, rfl, h2⟩⟩
  · cases h
end
end Go.Abs
