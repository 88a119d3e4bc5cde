/- Steps of a whole machine: deferred calls, and panics that go on. -/
import Derived.Test.YtfgefjpgmfjmjaaGreatDoorAbsStep6
namespace Go.Abs
open Go.RowKit (Below)

section
variable {T : Tabs} {P : Program} {B : Nat} {Q : List Nat} {w₀ w w' : World} {φ ψ : Inj} {A A' : AHeap} {f : FuncId} {cs₀ : List Frame}

theorem panicking_sim (H : T.Ok P) (G : GlobOk T φ) {base : ABase} {tmps : Tree AV} {todo : List AItem} {ch : List APanic} {cs : List AFrame} {cs' : List Frame} {fr : Frame} (F : FRel φ [] false ⟨base, tmps, todo, [], .panicking ch⟩ fr) (S : SRel φ Q cs cs') (R : Rel B w₀ Q φ A w) (hn : Q.Nodup) (hb : Bot f base cs) :
    SOut P T B w₀ f cs₀ (lone fr (cs' ++ cs₀) w) (stepPanicking T base ch cs A) := by
  unfold stepPanicking
  split
  · rename_i fn hfn
    obtain ⟨hf, _⟩ := H.fns _ _ hfn
    obtain ⟨ch', hm, hp⟩ := F.mode
    have hd : fr.defers = [] := by
      have := F.defers
      cases hx : fr.defers with
      | nil => rfl
      | cons a b => rw [hx] at this; cases this
    have hf' : P.funcs[fr.fn]? = some fn := by rw [F.fn]; exact hf
    cases S with
    | nil => trivial
    | @cons q₁ Q₁ a c cs₁ cs₁' hfr hS =>
      obtain ⟨_, _, h3⟩ := hb
      refine ⟨_, Steps.one (step_unwindPanic hm hd hf'), φ, [], Q₁, _, cs₁', w, rfl, G, raise_rel hfr hp, hS, R.lessQ fun b hb => (by simp at hb; simp [hb]), (List.nodup_append.1 hn).2.1, ?_⟩
      rw [raise_base]; exact h3
  · trivial

theorem step_mark {fr : Frame} {cs : List Frame} {N : Nat} {args : Array Value} {ds : List Deferred} {calls : List Deferred} (hm : fr.mode ≠ .run) (hd : fr.defers = { target := .collected N, args } :: ds) (hr : (Instr.takeDeferred N).run P w = .ok calls w') :
    Go.step P (lone fr cs w) = .next (lone { fr with defers := calls ++ ds } cs w') :=
  step_lone_go (by
    obtain ⟨fn, tmps, todo, defers, mode, kind, ro⟩ := fr
    cases mode with
    | run => exact absurd rfl hm
    | returning => simp only at hd; subst hd; simp [stepG, unwind, hr]
    | panicking c => simp only at hd; subst hd; simp [stepG, unwind, hr])
theorem step_deferCall {fr : Frame} {cs : List Frame} {g : Fn} {captured : Array Value} {args : Array Value} {ds : List Deferred} {h : FuncId} {vs : Array Value} (hm : fr.mode ≠ .run) (hd : fr.defers = { target := .fn g captured, args } :: ds) (hr : (Go.invoke (.fn g captured) args).run P w = .ok (.enter h vs) w') :
    Go.step P (lone fr cs w) = .next (lone (Frame.enter P h vs .deferred) ({ fr with defers := ds } :: cs) w') :=
  step_lone_go (by
    obtain ⟨fn, tmps, todo, defers, mode, kind, ro⟩ := fr
    cases mode with
    | run => exact absurd rfl hm
    | returning => simp only at hd; subst hd; simp [stepG, unwind, callDeferred, hr]
    | panicking c => simp only at hd; subst hd; simp [stepG, unwind, callDeferred, hr])

theorem DefersRel.append {a b : List ADefer} {a' b' : List Deferred} (h : DefersRel φ a a') (k : DefersRel φ b b') : DefersRel φ (a ++ b) (a' ++ b') := by
  induction h with
  | nil => exact k
  | cons hd _ ih => exact .cons hd ih

theorem FRel.wait {q : List Nat} {w₁ w₂ : Bool} {a : AFrame} {fr : Frame} (F : FRel φ q w₁ a fr) (h : a.mode ≠ .run) : FRel φ q w₂ a fr := by
  refine ⟨F.fn, F.kind, F.nt, F.own, F.keep, F.round, F.defers, F.mode, ?_⟩
  have := F.body
  obtain ⟨base, tmps, todo, defers, mode⟩ := a
  cases mode with
  | run => exact absurd rfl h
  | returning => exact this
  | panicking c => exact this

theorem stepDefers_sim (H : T.Ok P) (G : GlobOk T φ) {base : ABase} {tmps : Tree AV} {todo : List AItem} {defers : List ADefer} {mode : AMode} {cs : List AFrame} {cs' : List Frame} {fr : Frame} (hmode : mode ≠ .run) (F : FRel φ [] false ⟨base, tmps, todo, defers, mode⟩ fr)
    (S : SRel φ Q cs cs') (R : Rel B w₀ Q φ A w) (hn : Q.Nodup) (hb : Bot f base cs) {last : AStep} (hlast : defers = [] → SOut P T B w₀ f cs₀ (lone fr (cs' ++ cs₀) w) last) :
    SOut P T B w₀ f cs₀ (lone fr (cs' ++ cs₀) w) (stepDefers T base tmps todo defers mode cs A last) := by
  have hm : fr.mode ≠ .run := by
    have := F.mode
    cases mode with
    | run => exact absurd rfl hmode
    | returning => replace this : fr.mode = .returning := this; rw [this]; intro h; cases h
    | panicking c => obtain ⟨c', e, _⟩ := this; rw [e]; intro h; cases h
  have hD := F.defers
  cases defers with
  | nil => exact hlast rfl
  | cons d ds =>
    obtain ⟨e, es, he, hd, ht⟩ : ∃ e es, fr.defers = e :: es ∧ DeferRel φ d e ∧ DefersRel φ ds es := by
      cases hx : fr.defers with
      | nil => rw [hx] at hD; cases hD
      | cons e es => rw [hx] at hD; cases hD with | cons h t => exact ⟨e, es, rfl, h, t⟩
    cases d with
    | mark b =>
      obtain ⟨N, dd, hφ, rfl⟩ := hd
      unfold stepDefers
      simp only
      split
      · rename_i l hg
        obtain ⟨y, hy, os, rfl, hl⟩ := R.obj b _ N dd hg hφ
        cases os with
        | none => exact hl.elim
        | some os =>
          have hl' : DefersRel φ l os := hl
          have R' := R.setObj (o' := .defd none) (r' := .deferred none) hg hφ ⟨none, rfl, trivial⟩ (by intro _ _ _ _ _ _ h; cases h) (by intro _ _ _ _ _ _ h; cases h)
          have hrun : (Instr.takeDeferred N).run P w = .ok os { w with heap := w.heap.setIfInBounds N (.deferred none) } := by
            simp [Instr.takeDeferred, getObj_run hy (by intro _ _ _ h; cases h), setObj_run hy (by intro _ _ _ h; cases h)]
          exact ⟨_, Steps.one (step_mark hm he hrun), φ, [], Q, _, cs', _, rfl, G, ⟨F.fn, F.kind, F.nt, F.own, F.keep, F.round, hl'.append ht, F.mode, F.body⟩, S, R', hn, hb⟩
      · trivial
    | call d =>
      obtain ⟨g, c, he1, hfn, hc, ha⟩ := hd
      obtain ⟨target, args⟩ := e
      simp only at he1 ha
      subst he1
      unfold stepDefers
      simp only
      split
      · rename_i h vargs A₁ hi
        have hout := invoke_run (P := P) H R (captured' := c) (args' := args) hi hfn hc ha
        obtain ⟨vs, h1, h2, h3⟩ := hout
        split
        · rename_i cfr hcf
          obtain ⟨F', k1, k2, k3, k4⟩ := enter_rel H hcf h2
          have F₂ : FRel φ [] true ⟨base, tmps, todo, ds, mode⟩ { fr with defers := es } := (FRel.wait ⟨F.fn, F.kind, F.nt, F.own, F.keep, F.round, ht, F.mode, F.body⟩ hmode : FRel φ [] true ⟨base, tmps, todo, ds, mode⟩ { fr with defers := es })
          refine ⟨_, Steps.one (step_deferCall hm he h1), φ, [], [] ++ Q, _, _ :: cs', w, rfl, G, F', .cons F₂ S, h3, hn, ?_⟩
          exact ⟨fun h => (by rw [k2] at h; cases h), fun _ => hmode, hb⟩
        · trivial
      · trivial
end
end Go.Abs
