/- Steps of a whole machine: values, calls, returns. -/
import Derived.Test.YtfgefjpgmfjmjaaGreatDoorAbsDraw5
namespace Go.Abs
open Go.RowKit (Below)

section
variable {T : Tabs} {P : Program} {B : Nat} {Q : List Nat} {w₀ w w' : World} {φ ψ : Inj} {A A' : AHeap} {f : FuncId} {cs₀ : List Frame}

/-- What stands for a machine. -/
def St (T : Tabs) (B : Nat) (w₀ : World) (f : FuncId) (cs₀ : List Frame) (s : ASt) (m : Machine) : Prop :=
  ∃ φ q Q fr cs' w, m = lone fr (cs' ++ cs₀) w ∧ GlobOk T φ ∧ FRel φ q false s.fr fr ∧ SRel φ Q s.cs cs' ∧ Rel B w₀ (q ++ Q) φ s.heap w ∧ (q ++ Q).Nodup ∧ Bot f s.fr.base s.cs

def SOut (P : Program) (T : Tabs) (B : Nat) (w₀ : World) (f : FuncId) (cs₀ : List Frame) (m : Machine) : AStep → Prop
  | .cont s => ∃ m', Steps P m m' ∧ St T B w₀ f cs₀ s m'
  | .done v A => ∃ φ fr w v', Steps P m (lone fr cs₀ w) ∧ fr.fn = f ∧ fr.leaving P w (.returned v') ∧ VRel φ v v' ∧ Rel B w₀ [] φ A w
  | _ => True

theorem SOut.of_steps {m m₁ : Machine} {r : AStep} (hs : Steps P m m₁) (h : SOut P T B w₀ f cs₀ m₁ r) : SOut P T B w₀ f cs₀ m r := by
  cases r with
  | cont s => obtain ⟨m', h1, h2⟩ := h; exact ⟨m', hs.trans h1, h2⟩
  | done v A => obtain ⟨φ, fr, w, v', h1, h2⟩ := h; exact ⟨φ, fr, w, v', hs.trans h1, h2⟩
  | died c A => trivial
  | fail => trivial

theorem SOut.goTo (G : GlobOk T φ) {q : List Nat} {a : AFrame} {cs : List AFrame} {fr : Frame} {cs' : List Frame} (F : FRel φ q false a fr) (S : SRel φ Q cs cs') (R : Rel B w₀ (q ++ Q) φ A w) (hn : (q ++ Q).Nodup) (hb : Bot f a.base cs) :
    SOut P T B w₀ f cs₀ (lone fr (cs' ++ cs₀) w) (.cont ⟨a, cs, A⟩) :=
  ⟨_, Steps.refl _ _, φ, q, Q, fr, cs', w, rfl, G, F, S, R, hn, hb⟩

theorem acts_makes {op : Op} (h : actsOp op = true) : makes op = false := by
  cases op <;> first | rfl | cases h

/-- A value for a frame that waits for it. -/
theorem finish_rel {q : List Nat} {base : ABase} {tmps : Tree AV} {todo todo' : List AItem} {defers : List ADefer} {fr : Frame} (F : FRel φ q true ⟨base, tmps, todo, defers, .run⟩ fr) {v : AV} {v' : Value} (hv : VRel φ v v')
    (h : finishTodo todo v = some todo') : ∃ q', FRel φ q' false ⟨base, tmps, todo', defers, .run⟩ (fr.finish v') ∧ q'.Perm q := by
  obtain ⟨fn, tmps', rtodo, rdefers, mode, kind, ro⟩ := fr
  have hmode : mode = .run := F.mode
  subst hmode
  unfold finishTodo at h
  split at h
  · rename_i ops o rest prev vals k
    cases h
    obtain ⟨rfl, is, k', e, hk, hr⟩ := F.body
    replace e : rtodo = _ := e
    subst e
    obtain ⟨i, is', rfl, ho, hr'⟩ := hr.next F.nt φ.le_refl hv
    rw [finish_op ho]
    refine ⟨[], ⟨F.fn, F.kind, ?_, F.own, F.keep, F.round, F.defers, rfl, rfl, is', k', rfl, hk, hr'⟩, List.Perm.refl _⟩
    have := F.nt
    show (match o.dst with | some d => tmps'.setIfInBounds d v' | none => tmps').size = base.nt
    cases o.dst with
    | none => exact this
    | some d => rw [Array.size_setIfInBounds]; exact this
  · rename_i ops s vals k
    split at h
    · rename_i Pl hpl
      split at h
      · rename_i i hi
        cases h
        obtain ⟨is, k', e, hk, ⟨Pl', fuel, t, listed, D, his, hf⟩, hat⟩ := F.body
        replace e : rtodo = _ := e
        subst e
        have hpl' := D.plan
        rw [hpl] at hpl'; cases hpl'
        obtain ⟨Pl₂, i₂, r₂, hp2, hr2, hi2⟩ := hat rfl
        rw [hpl] at hp2; cases hp2
        rw [hi] at hi2; cases hi2
        simp only [cond_true] at D
        rcases go_cases ops fuel t listed with ⟨h1, _⟩ | ⟨i₁, fuel', t', h1, h2, h3⟩
        · rw [his, h1] at hr2; cases hr2
        · rw [his, h3] at hr2
          cases hr2
          subst h1
          obtain ⟨o, ho, hl, hpre⟩ := ready_mem h2
          have hlt := lt_of_some ho
          have hli : listed.getD i false = false := by rw [← getD_flip (by rw [D.size]; exact hlt)]; exact hl
          have hno : nth ops.toList i = some o := by rw [nth_array]; exact ho
          obtain ⟨o', ho', ha⟩ := act_is hpl hi
          rw [ho] at ho'; cases ho'
          have hmk := acts_makes ha
          rw [his, h3, finish_op ho]
          refine ⟨q, ⟨F.fn, F.kind, ?_, F.own, F.keep, F.round, F.defers, rfl, _, k', rfl, hk, ⟨Pl, fuel', t', _, D.next (s' := s + 1) (c' := s + 1) F.nt φ.le_refl ho hli hpre hv (fun j hj => Tree.get_put_ne _ _ _ hj) (Tree.get_put_self _ _ _) ?_ ?_ (fun m _ hna => by rw [ha] at hna; cases hna) rfl ?_, rfl, ?_⟩, fun hw => by cases hw⟩, List.Perm.refl _⟩
          · have := F.nt
            show (match o.dst with | some d => tmps'.setIfInBounds d v' | none => tmps').size = base.nt
            cases o.dst with
            | none => exact this
            | some d => rw [Array.size_setIfInBounds]; exact this
          · intro k₁ x hx
            constructor
            · rintro (rfl | h)
              · rcases Nat.lt_or_ge k₁ (s + 1) with h | h
                · exact h
                · obtain ⟨m, hm, _⟩ := plan_mask hpl ho
                  obtain ⟨_, _, hrow, _, _⟩ := plan_parts hpl
                  obtain ⟨y, rfl⟩ : ∃ y, k₁ = y + 1 := ⟨k₁ - 1, by omega⟩
                  have hy : ∃ a, nth Pl.acts y = some a := by
                    rw [nth_eq] at hx
                    have : y + 1 < Pl.acts.length := by
                      rcases Nat.lt_or_ge (y + 1) Pl.acts.length with h | h
                      · exact h
                      · rw [List.getElem?_eq_none h] at hx; cases hx
                    exact ⟨Pl.acts[y], by rw [nth_eq, List.getElem?_eq_getElem (by omega)]⟩
                  obtain ⟨a, hya⟩ := hy
                  obtain ⟨m', hm', hb'⟩ := inRow_prev hrow y a x hya hx
                  rw [hm] at hm'; cases hm'
                  have hla := mask_down D.plan D.size D.down x o m ho hm hpre a hb'
                  have hla' : listed.getD a true = true := by rw [getD_flip (lt_of_getD hla)]; exact hla
                  have := (D.acts y a hya).1 hla'
                  omega
              · have := (D.acts k₁ x hx).1 h; omega
            · intro hk₁
              rcases Nat.lt_or_ge k₁ s with h | h
              · exact .inr ((D.acts k₁ x hx).2 h)
              · have : k₁ = s := by omega
                subst this
                rw [hi] at hx; cases hx
                exact .inl rfl
          · rw [nth_eq] at hi
            rcases Nat.lt_or_ge s Pl.acts.length with h | h
            · exact h
            · rw [List.getElem?_eq_none h] at hi; cases hi
          · rw [pendOf_list (by rw [D.size]; exact hlt) hno hl (.inl hmk), pendOf_same hno (fun j hj => Tree.get_put_ne _ _ _ hj) (.inl hmk)]
            exact D.pend
          · have := unlisted_lt hlt D.size hl
            omega
      · cases h
    · cases h
  · rename_i l k
    cases h
    obtain ⟨rfl, hk, ht⟩ := F.body
    cases hk with
    | cons hi hk =>
      obtain ⟨N, d, e, rfl⟩ := hi
      exact ⟨[], ⟨F.fn, F.kind, F.nt, F.own, F.keep, F.round, F.defers, rfl, rfl, .cons ⟨N, d, e, rfl⟩ hk, ht⟩, List.Perm.refl _⟩
  · cases h
end
end Go.Abs
