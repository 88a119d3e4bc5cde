/- Steps of a whole machine: a frame that runs. -/
import Derived.Test.YtfgefjpgmfjmjaaGreatDoorAbsStep8
namespace Go.Abs
open Go.RowKit (Below)

section
variable {T : Tabs} {P : Program} {B : Nat} {Q : List Nat} {w₀ w w' : World} {φ ψ : Inj} {A A' : AHeap} {f : FuncId} {cs₀ : List Frame}
variable {base : ABase} {tmps : Tree AV} {k : List AItem} {defers : List ADefer} {cs : List AFrame} {cs' : List Frame} {fn : FuncId} {tmps' : Array Value} {k' : List Item} {rd : List Deferred} {kind : CallKind} {ro : Option Nat}

theorem cond_sim (G : GlobOk T φ) {x : Operand} {a b : Code} (F : FRel φ [] false ⟨base, tmps, .code (.cond x a b) :: k, defers, .run⟩ ⟨fn, tmps', .code (.cond x a b) :: k', rd, .run, kind, ro⟩) (hk : KRel φ k k') (ht : TRel φ tmps tmps')
    (S : SRel φ Q cs cs') (R : Rel B w₀ Q φ A w) (hn : Q.Nodup) (hb : Bot f base cs) :
    SOut P T B w₀ f cs₀ (lone ⟨fn, tmps', .code (.cond x a b) :: k', rd, .run, kind, ro⟩ (cs' ++ cs₀) w) (stepCond base tmps defers cs A (evalOp T tmps x) a b k) := by
  unfold stepCond
  split
  · rename_i t hx
    have hv := evalOp_rel (fr := ⟨fn, tmps', .code (.cond x a b) :: k', rd, .run, kind, ro⟩) G ht x _ hx
    simp only [VRel] at hv
    have hi : ItemRel φ (.code (sel t a b)) (.code (if t then a else b)) := by cases t <;> rfl
    exact goTo_sim G F ht S R hn hb (.cons hi hk) (st_cond hv)
  · trivial

theorem st_leave {todo : List Item} (h : todo = [] ∨ ∃ r, todo = .code .ret :: r) : Go.step P (lone ⟨fn, tmps', todo, rd, .run, kind, none⟩ cs₀ w) = .next (lone ⟨fn, tmps', todo, rd, .returning, kind, none⟩ cs₀ w) := by
  rcases h with rfl | ⟨r, rfl⟩
  · exact step_lone_go (by simp [stepG, stepG.exec])
  · exact step_lone_go (by simp [stepG, stepG.exec])
theorem st_endRound {l : Nat} {c : Frame} {cs₁ : List Frame} {v : Value} {todo : List Item} {jump : Option Code} (h : (todo = [] ∧ jump = none) ∨ (∃ r, todo = .code .ret :: r ∧ jump = some .ret) ∨ (∃ id r, todo = .code (.exit id) :: r ∧ Go.exitTo id r = none ∧ jump = some (.exit id)) ∨ (∃ id r, todo = .code (.goto id) :: r ∧ Go.gotoIn id r = none ∧ jump = some (.goto id)))
    (hr : (Instr.endRound l jump).run P w = .ok v w') : Go.step P (lone ⟨fn, tmps', todo, rd, .run, .normal, some l⟩ (c :: cs₁) w) = .next (lone (c.finish v) cs₁ w') := by
  rcases h with ⟨rfl, rfl⟩ | ⟨r, rfl, rfl⟩ | ⟨id, r, rfl, hx, rfl⟩ | ⟨id, r, rfl, hx, rfl⟩
  · exact step_lone_go (by simp [stepG, stepG.exec, hr, Go.doReturn])
  · exact step_lone_go (by simp [stepG, stepG.exec, hr, Go.doReturn])
  · exact step_lone_go (by simp [stepG, stepG.exec, hx, hr, Go.doReturn])
  · exact step_lone_go (by simp [stepG, stepG.exec, hx, hr, Go.doReturn])

theorem exit_sim (G : GlobOk T φ) {id : Nat} (F : FRel φ [] false ⟨base, tmps, .code (.exit id) :: k, defers, .run⟩ ⟨fn, tmps', .code (.exit id) :: k', rd, .run, kind, ro⟩) (hk : KRel φ k k') (ht : TRel φ tmps tmps')
    (S : SRel φ Q cs cs') (R : Rel B w₀ Q φ A w) (hn : Q.Nodup) (hb : Bot f base cs) :
    SOut P T B w₀ f cs₀ (lone ⟨fn, tmps', .code (.exit id) :: k', rd, .run, kind, ro⟩ (cs' ++ cs₀) w) (stepExit base tmps defers cs A id k) := by
  obtain ⟨h1, h2⟩ := exitTo_rel (id := id) hk
  unfold stepExit
  split
  · rename_i r hr
    obtain ⟨r', e, hr'⟩ := h1 r hr
    exact goTo_sim G F ht S R hn hb hr' (st_exit e)
  · rename_i hr
    have hx := h2 hr
    refine leave_sim G F ht S R hn hb (some (.exit id)) (fun _ h => ?_) (fun l c cs₁ v w' e1 e2 e3 e4 => ?_)
    · rcases h with h | h <;> cases h
    · replace e1 : ro = some l := e1
      replace e3 : kind = .normal := e3
      subst e1; subst e2; subst e3
      exact st_endRound (.inr (.inr (.inl ⟨id, k', rfl, hx, rfl⟩))) e4

theorem goto_sim (G : GlobOk T φ) {id : Nat} (F : FRel φ [] false ⟨base, tmps, .code (.goto id) :: k, defers, .run⟩ ⟨fn, tmps', .code (.goto id) :: k', rd, .run, kind, ro⟩) (hk : KRel φ k k') (ht : TRel φ tmps tmps')
    (S : SRel φ Q cs cs') (R : Rel B w₀ Q φ A w) (hn : Q.Nodup) (hb : Bot f base cs) :
    SOut P T B w₀ f cs₀ (lone ⟨fn, tmps', .code (.goto id) :: k', rd, .run, kind, ro⟩ (cs' ++ cs₀) w) (stepGoto base tmps defers cs A id k) := by
  obtain ⟨h1, h2⟩ := gotoIn_rel (l := id) hk
  unfold stepGoto
  split
  · rename_i r hr
    obtain ⟨r', e, hr'⟩ := h1 r hr
    exact goTo_sim G F ht S R hn hb hr' (st_goto e)
  · rename_i hr
    have hx := h2 hr
    refine leave_sim G F ht S R hn hb (some (.goto id)) (fun _ h => ?_) (fun l c cs₁ v w' e1 e2 e3 e4 => ?_)
    · rcases h with h | h <;> cases h
    · replace e1 : ro = some l := e1
      replace e3 : kind = .normal := e3
      subst e1; subst e2; subst e3
      exact st_endRound (.inr (.inr (.inr ⟨id, k', rfl, hx, rfl⟩))) e4
/-- The end of a frame's code, or a return. -/
theorem ret_sim (G : GlobOk T φ) {todo : List AItem} {todo' : List Item} {jump : Option Code} (hj : (todo' = [] ∧ jump = none) ∨ (∃ r, todo' = .code .ret :: r ∧ jump = some .ret)) (F : FRel φ [] false ⟨base, tmps, todo, defers, .run⟩ ⟨fn, tmps', todo', rd, .run, kind, ro⟩) (ht : TRel φ tmps tmps')
    (S : SRel φ Q cs cs') (R : Rel B w₀ Q φ A w) (hn : Q.Nodup) (hb : Bot f base cs) :
    SOut P T B w₀ f cs₀ (lone ⟨fn, tmps', todo', rd, .run, kind, ro⟩ (cs' ++ cs₀) w) (leave base tmps defers cs A jump) := by
  refine leave_sim G F ht S R hn hb jump (fun e _ => ?_) (fun l c cs₁ v w' e1 e2 e3 e4 => ?_)
  · replace e : ro = none := e
    subst e
    exact st_leave (by rcases hj with ⟨h, _⟩ | ⟨r, h, _⟩; exact .inl h; exact .inr ⟨r, h⟩)
  · replace e1 : ro = some l := e1
    replace e3 : kind = .normal := e3
    subst e1; subst e2; subst e3
    refine st_endRound ?_ e4
    rcases hj with h | h
    · exact .inl h
    · exact .inr (.inl h)

theorem st_region {id : Nat} {ops : Array Oper} : Go.step P (lone ⟨fn, tmps', .code (.region id ops false) :: k', rd, .run, kind, ro⟩ cs₀ w) = .next (lone ⟨fn, tmps', .inRegion ops (List.range ops.size) :: k', rd, .run, kind, ro⟩ cs₀ w) := step_lone_go (by simp [stepG, stepG.exec])
theorem plain_sim (H : T.Ok P) (G : GlobOk T φ) {id : Nat} {ops : Array Oper} (F : FRel φ [] false ⟨base, tmps, .code (.region id ops false) :: k, defers, .run⟩ ⟨fn, tmps', .code (.region id ops false) :: k', rd, .run, kind, ro⟩) (hk : KRel φ k k') (ht : TRel φ tmps tmps')
    (S : SRel φ Q cs cs') (R : Rel B w₀ Q φ A w) (hn : Q.Nodup) (hb : Bot f base cs) (hd : dstsIn base.nt ops.toList = true) :
    SOut P T B w₀ f cs₀ (lone ⟨fn, tmps', .code (.region id ops false) :: k', rd, .run, kind, ro⟩ (cs' ++ cs₀) w) (stepRegion T base tmps defers cs A ops ops.toList [] [] k) := by
  refine SOut.of_steps (Steps.one st_region) ?_
  have hr : RegRel φ base.nt ops ops.toList [] [] tmps tmps' (List.range ops.size) :=
    ⟨[], rfl, rfl, rfl, by rw [List.range_eq_range', Array.length_toList]; rfl, hd, fun t => ⟨getTmp tmps t, rfl, ht t⟩⟩
  exact stepRegion_sim H G ⟨F.fn, F.kind, F.nt, F.own, F.keep, F.round, F.defers, rfl, rfl, _, _, rfl, hk, hr⟩ S R hn hb
end
end Go.Abs
