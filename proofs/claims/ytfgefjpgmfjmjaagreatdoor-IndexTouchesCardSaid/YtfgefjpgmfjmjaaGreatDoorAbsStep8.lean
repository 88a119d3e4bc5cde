/- Steps of a whole machine: plain code. -/
import Derived.Test.YtfgefjpgmfjmjaaGreatDoorAbsStep7
namespace Go.Abs
open Go.RowKit (Below)

section
variable {T : Tabs} {P : Program} {B : Nat} {Q : List Nat} {w₀ w w' : World} {φ ψ : Inj} {A A' : AHeap} {f : FuncId} {cs₀ : List Frame}

theorem exitTo_nil (id : Nat) : exitTo id [] = none := rfl
theorem exitTo_cons (id : Nat) (x : AItem) (k : List AItem) : exitTo id (x :: k) = sel (isBlock id x) (some k) (exitTo id k) := rfl
theorem exitTo_rel {id : Nat} {k : List AItem} {k' : List Item} (h : KRel φ k k') : (∀ r, exitTo id k = some r → ∃ r', Go.exitTo id k' = some r' ∧ KRel φ r r') ∧ (exitTo id k = none → Go.exitTo id k' = none) := by
  induction h with
  | nil => exact ⟨fun r h => (by cases h), fun _ => rfl⟩
  | @cons a i k k' hi hk ih =>
    rw [exitTo_cons]
    cases a with
    | inBlock id' =>
      have e : i = .inBlock id' := hi
      subst e
      show (∀ r, sel (Nat.beq id' id) (some k) (exitTo id k) = some r → _) ∧ (sel (Nat.beq id' id) (some k) (exitTo id k) = none → _)
      unfold Go.exitTo
      cases hb : Nat.beq id' id with
      | true =>
        have := Nat.eq_of_beq_eq_true hb
        subst this
        refine ⟨fun r h => ?_, fun h => (by cases h)⟩
        cases h
        exact ⟨k', by simp, hk⟩
      | false =>
        have hne : ¬ (id' == id) = true := by
          intro h
          rw [beq_iff_eq] at h
          subst h; rw [Nat.beq_refl] at hb; cases hb
        rw [if_neg hne]
        exact ih
    | code c => have e : i = .code c := hi; subst e; exact ih
    | inLoop c => have e : i = .inLoop c := hi; subst e; exact ih
    | inScope c => have e : i = .inScope c := hi; subst e; exact ih
    | inRangeFunc l => obtain ⟨N, d, _, rfl⟩ := hi; exact ih
    | endRangeFunc l => obtain ⟨N, d, _, rfl⟩ := hi; exact ih
    | beginRound => have e : i = .beginRound := hi; subst e; exact ih
    | inRegion ops rest prev vals => exact hi.elim
    | inDraw ops s vals => exact hi.elim

/-- A frame goes on with other things to do. -/
theorem goTo_sim (G : GlobOk T φ) {base : ABase} {tmps : Tree AV} {todo todo₂ : List AItem} {defers : List ADefer} {cs : List AFrame} {cs' : List Frame} {fn : FuncId} {tmps' : Array Value} {todo' todo₂' : List Item} {rdefers : List Deferred} {kind : CallKind} {ro : Option Nat}
    (F : FRel φ [] false ⟨base, tmps, todo, defers, .run⟩ ⟨fn, tmps', todo', rdefers, .run, kind, ro⟩) (ht : TRel φ tmps tmps') (S : SRel φ Q cs cs') (R : Rel B w₀ Q φ A w) (hn : Q.Nodup) (hb : Bot f base cs) (hk : KRel φ todo₂ todo₂')
    (hs : Go.step P (lone ⟨fn, tmps', todo', rdefers, .run, kind, ro⟩ (cs' ++ cs₀) w) = .next (lone ⟨fn, tmps', todo₂', rdefers, .run, kind, ro⟩ (cs' ++ cs₀) w)) :
    SOut P T B w₀ f cs₀ (lone ⟨fn, tmps', todo', rdefers, .run, kind, ro⟩ (cs' ++ cs₀) w) (goTo base tmps defers cs A todo₂) :=
  ⟨_, Steps.one hs, φ, [], Q, _, cs', w, rfl, G, ⟨F.fn, F.kind, F.nt, F.own, F.keep, F.round, F.defers, rfl, TodoRel.of_K hk ht⟩, S, R, hn, hb⟩

theorem gotoIn_rel {l : Nat} {k : List AItem} {k' : List Item} (h : KRel φ k k') : (∀ r, gotoIn l k = some r → ∃ r', Go.gotoIn l k' = some r' ∧ KRel φ r r') ∧ (gotoIn l k = none → Go.gotoIn l k' = none) := by
  induction h with
  | nil => exact ⟨fun r h => (by cases h), fun _ => rfl⟩
  | @cons a i k k' hi hk ih =>
    cases a with
    | inScope c =>
      have e : i = .inScope c := hi
      subst e
      unfold gotoIn Go.gotoIn
      cases hf : Go.findLabel c l with
      | none =>
        simp only
        exact ih
      | some rest =>
        simp only
        refine ⟨fun r h => ?_, fun h => (by cases h)⟩
        cases h
        exact ⟨_, rfl, .cons rfl (.cons rfl hk)⟩
    | inBlock id' => have e : i = .inBlock id' := hi; subst e; exact ih
    | code c => have e : i = .code c := hi; subst e; exact ih
    | inLoop c => have e : i = .inLoop c := hi; subst e; exact ih
    | inRangeFunc l => obtain ⟨N, d, _, rfl⟩ := hi; exact ih
    | endRangeFunc l => obtain ⟨N, d, _, rfl⟩ := hi; exact ih
    | beginRound => have e : i = .beginRound := hi; subst e; exact ih
    | inRegion ops rest prev vals => exact hi.elim
    | inDraw ops s vals => exact hi.elim

section
variable {fn : FuncId} {tmps' : Array Value} {k : List Item} {rd : List Deferred} {kind : CallKind} {ro : Option Nat} {cs' : List Frame}
theorem st_skip : Go.step P (lone ⟨fn, tmps', .code .skip :: k, rd, .run, kind, ro⟩ cs' w) = .next (lone ⟨fn, tmps', k, rd, .run, kind, ro⟩ cs' w) := step_lone_go (by simp [stepG, stepG.exec])
theorem st_label {l : Nat} : Go.step P (lone ⟨fn, tmps', .code (.label l) :: k, rd, .run, kind, ro⟩ cs' w) = .next (lone ⟨fn, tmps', k, rd, .run, kind, ro⟩ cs' w) := step_lone_go (by simp [stepG, stepG.exec])
theorem st_inBlock {l : Nat} : Go.step P (lone ⟨fn, tmps', .inBlock l :: k, rd, .run, kind, ro⟩ cs' w) = .next (lone ⟨fn, tmps', k, rd, .run, kind, ro⟩ cs' w) := step_lone_go (by simp [stepG, stepG.exec])
theorem st_inScope {c : Code} : Go.step P (lone ⟨fn, tmps', .inScope c :: k, rd, .run, kind, ro⟩ cs' w) = .next (lone ⟨fn, tmps', k, rd, .run, kind, ro⟩ cs' w) := step_lone_go (by simp [stepG, stepG.exec])
theorem st_inLoop {c : Code} : Go.step P (lone ⟨fn, tmps', .inLoop c :: k, rd, .run, kind, ro⟩ cs' w) = .next (lone ⟨fn, tmps', .code c :: .inLoop c :: k, rd, .run, kind, ro⟩ cs' w) := step_lone_go (by simp [stepG, stepG.exec])
theorem st_loop {c : Code} : Go.step P (lone ⟨fn, tmps', .code (.loop c) :: k, rd, .run, kind, ro⟩ cs' w) = .next (lone ⟨fn, tmps', .code c :: .inLoop c :: k, rd, .run, kind, ro⟩ cs' w) := step_lone_go (by simp [stepG, stepG.exec])
theorem st_scope {c : Code} : Go.step P (lone ⟨fn, tmps', .code (.scope c) :: k, rd, .run, kind, ro⟩ cs' w) = .next (lone ⟨fn, tmps', .code c :: .inScope c :: k, rd, .run, kind, ro⟩ cs' w) := step_lone_go (by simp [stepG, stepG.exec])
theorem st_block {id : Nat} {c : Code} : Go.step P (lone ⟨fn, tmps', .code (.block id c) :: k, rd, .run, kind, ro⟩ cs' w) = .next (lone ⟨fn, tmps', .code c :: .inBlock id :: k, rd, .run, kind, ro⟩ cs' w) := step_lone_go (by simp [stepG, stepG.exec])
theorem st_seq {a b : Code} : Go.step P (lone ⟨fn, tmps', .code (.seq a b) :: k, rd, .run, kind, ro⟩ cs' w) = .next (lone ⟨fn, tmps', .code a :: .code b :: k, rd, .run, kind, ro⟩ cs' w) := step_lone_go (by simp [stepG, stepG.exec])
theorem st_cond {x : Operand} {a b : Code} {t : Bool} (h : Frame.eval ⟨fn, tmps', .code (.cond x a b) :: k, rd, .run, kind, ro⟩ x = .bool t) :
    Go.step P (lone ⟨fn, tmps', .code (.cond x a b) :: k, rd, .run, kind, ro⟩ cs' w) = .next (lone ⟨fn, tmps', .code (if t then a else b) :: k, rd, .run, kind, ro⟩ cs' w) := step_lone_go (by simp [stepG, stepG.exec, h])
theorem st_exit {id : Nat} {k₂ : List Item} (h : Go.exitTo id k = some k₂) : Go.step P (lone ⟨fn, tmps', .code (.exit id) :: k, rd, .run, kind, ro⟩ cs' w) = .next (lone ⟨fn, tmps', k₂, rd, .run, kind, ro⟩ cs' w) := step_lone_go (by simp [stepG, stepG.exec, h])
theorem st_goto {l : Nat} {k₂ : List Item} (h : Go.gotoIn l k = some k₂) : Go.step P (lone ⟨fn, tmps', .code (.goto l) :: k, rd, .run, kind, ro⟩ cs' w) = .next (lone ⟨fn, tmps', k₂, rd, .run, kind, ro⟩ cs' w) := step_lone_go (by simp [stepG, stepG.exec, h])
end

theorem evalOp_rel (G : GlobOk T φ) {tmps : Tree AV} {fr : Frame} (ht : TRel φ tmps fr.tmps) : ∀ x v, evalOp T tmps x = some v → VRel φ v (fr.eval x) := by
  intro x v h
  have : evalIn T [] [] tmps x = evalOp T tmps x := by cases x <;> rfl
  rw [← this] at h
  exact evalIn_rel (T := T) G (fun t => ⟨getTmp tmps t, rfl, ht t⟩) x v h
end
end Go.Abs
