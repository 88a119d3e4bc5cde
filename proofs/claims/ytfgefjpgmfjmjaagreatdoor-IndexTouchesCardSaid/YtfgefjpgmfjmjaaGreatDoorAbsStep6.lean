/- Steps of a whole machine: returning and unwinding. -/
import Derived.Test.YtfgefjpgmfjmjaaGreatDoorAbsStep5
namespace Go.Abs
open Go.RowKit (Below)

section
variable {T : Tabs} {P : Program} {B : Nat} {Q : List Nat} {w₀ w w' : World} {φ ψ : Inj} {A A' : AHeap} {f : FuncId} {cs₀ : List Frame}

theorem PanRel.noexit {c : List APanic} {c' : List PanicEntry} (h : PanRel φ c c') : c'.dropWhile (!·.goexit) = [] := by
  induction h with
  | nil => rfl
  | cons _ _ ih => simp only [List.dropWhile_cons, Bool.not_false, if_true]; exact ih

theorem step_deferred {fr c : Frame} {cs : List Frame} {v : Value} {fn : Func} (hm : fr.mode = .returning) (hd : fr.defers = []) (hk : fr.kind = .deferred) (hf : P.funcs[fr.fn]? = some fn) (hr : (Go.results fn fr.tmps).run P w = .ok v w) :
    Go.step P (lone fr (c :: cs) w) = .next (lone (match c.mode with
        | .panicking ({ recovered := true, .. } :: older) =>
          match older.dropWhile (!·.goexit) with
          | [] => { c with mode := .returning }
          | rest => { c with mode := .panicking rest }
        | _ => c) cs w) :=
  step_lone_go (by
    simp [stepG, unwind, Go.doReturn, hm, hd, hk, hf, hr]
    rfl)

theorem return_sim (H : T.Ok P) (G : GlobOk T φ) {base : ABase} {tmps : Tree AV} {todo : List AItem} {cs : List AFrame} {cs' : List Frame} {fr : Frame} (F : FRel φ [] false ⟨base, tmps, todo, [], .returning⟩ fr) (S : SRel φ Q cs cs') (R : Rel B w₀ Q φ A w) (hn : Q.Nodup) (hb : Bot f base cs) :
    SOut P T B w₀ f cs₀ (lone fr (cs' ++ cs₀) w) (stepReturning T base tmps cs A) := by
  unfold stepReturning
  split
  · rename_i v hv
    unfold resultOf at hv
    split at hv
    · rename_i fn hfn
      obtain ⟨hf, _⟩ := H.fns _ _ hfn
      have hm : fr.mode = .returning := F.mode
      have hd : fr.defers = [] := by
        have := F.defers
        cases hx : fr.defers with
        | nil => rfl
        | cons a b => rw [hx] at this; cases this
      have ht : TRel φ tmps fr.tmps := F.body.2
      obtain ⟨v', hr, hvr⟩ := results_run (P := P) H R ht hv
      have hf' : P.funcs[fr.fn]? = some fn := by rw [F.fn]; exact hf
      unfold doReturn
      split
      · rename_i hk
        have hk' : fr.kind = .normal := by rw [F.kind]; exact hk
        have hl : fr.leaving P w (.returned v') := ⟨hm, hd, hk', fn, hf', hr⟩
        by_cases hne : cs = []
        · subst hne
          cases S
          obtain ⟨h1, _, _⟩ := hb
          exact ⟨φ, fr, w, v', Steps.refl _ _, by rw [F.fn]; exact h1, hl, hvr, R⟩
        · exact give_sim G S R hn hb hk hne hvr fun c cs₁ e => by subst e; exact Steps.one (step_leave_returned hl)
      · rename_i hk
        have hk' : fr.kind = .deferred := by rw [F.kind]; exact hk
        unfold afterDeferred
        cases S with
        | nil => trivial
        | @cons q₁ Q₁ a c cs₁ cs₁' hfr hS =>
          obtain ⟨abase, atmps, atodo, adefers, amode⟩ := a
          obtain ⟨_, h2, h3⟩ := hb
          have hnr : amode ≠ .run := h2 hk
          have hstep := step_deferred (P := P) (w := w) (fr := fr) (c := c) (cs := cs₁' ++ cs₀) (v := v') hm hd hk' hf' hr
          obtain ⟨cfn, ctmps, ctodo, cdefers, cmode, ckind, cro⟩ := c
          simp only
          cases amode with
          | run => exact absurd rfl hnr
          | returning =>
            have e : cmode = .returning := hfr.mode
            subst e
            exact ⟨_, Steps.one hstep, φ, q₁, Q₁, _, cs₁', w, rfl, G, ⟨hfr.fn, hfr.kind, hfr.nt, hfr.own, hfr.keep, hfr.round, hfr.defers, rfl, hfr.body⟩, hS, R, hn, h3⟩
          | panicking ch =>
            obtain ⟨ch', e, hp⟩ := hfr.mode
            replace e : cmode = _ := e
            subst e
            cases hp with
            | nil =>
              exact ⟨_, Steps.one hstep, φ, q₁, Q₁, _, cs₁', w, rfl, G, ⟨hfr.fn, hfr.kind, hfr.nt, hfr.own, hfr.keep, hfr.round, hfr.defers, ⟨_, rfl, .nil⟩, hfr.body⟩, hS, R, hn, h3⟩
            | @cons x y c₁ c₂ rr hv₁ hp₁ =>
              cases rr with
              | false =>
                exact ⟨_, Steps.one hstep, φ, q₁, Q₁, _, cs₁', w, rfl, G, ⟨hfr.fn, hfr.kind, hfr.nt, hfr.own, hfr.keep, hfr.round, hfr.defers, ⟨_, rfl, .cons hv₁ hp₁⟩, hfr.body⟩, hS, R, hn, h3⟩
              | true =>
                have hno := hp₁.noexit
                simp only [hno] at hstep
                exact ⟨_, Steps.one hstep, φ, q₁, Q₁, _, cs₁', w, rfl, G, ⟨hfr.fn, hfr.kind, hfr.nt, hfr.own, hfr.keep, hfr.round, hfr.defers, rfl, hfr.body⟩, hS, R, hn, h3⟩
      · trivial
    · cases hv
  · trivial

theorem step_unwindPanic {fr c : Frame} {cs : List Frame} {ch : List PanicEntry} {fn : Func} (hm : fr.mode = .panicking ch) (hd : fr.defers = []) (hf : P.funcs[fr.fn]? = some fn) : Go.step P (lone fr (c :: cs) w) = .next (lone (c.raise ch) cs w) :=
  step_lone_go (by simp [stepG, unwind, Frame.catches, hm, hd, hf])
end
end Go.Abs
