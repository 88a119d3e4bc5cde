/- Steps of a whole machine: regions. -/
import Derived.Test.YtfgefjpgmfjmjaaGreatDoorAbsStep3
namespace Go.Abs
open Go.RowKit (Below)

section
variable {T : Tabs} {P : Program} {B : Nat} {Q : List Nat} {w₀ w w' : World} {φ ψ : Inj} {A A' : AHeap} {f : FuncId} {cs₀ : List Frame}

theorem TodoRel.of_K {nt : Nat} {wait : Bool} {tmps : Tree AV} {k : List AItem} {tmps' : Array Value} {k' : List Item} (hk : KRel φ k k') (ht : TRel φ tmps tmps') : TodoRel φ [] nt wait tmps k tmps' k' := by
  unfold TodoRel
  split
  · cases hk with
    | cons h _ => exact h.elim
  · cases hk with
    | cons h _ => exact h.elim
  · exact ⟨rfl, hk, ht⟩

theorem stepRegion_sim (H : T.Ok P) (G : GlobOk T φ) {base : ABase} {tmps : Tree AV} {defers : List ADefer} {cs : List AFrame} {cs' : List Frame} {fn : FuncId} {tmps' : Array Value} {ops : Array Oper} {is : List Nat} {k : List AItem} {k' : List Item}
    {rest : List Oper} {prev : List (Option Tmp)} {vals : List AV} {rdefers : List Deferred} {kind : CallKind} {ro : Option Nat}
    (F : FRel φ [] false ⟨base, tmps, .inRegion ops rest prev vals :: k, defers, .run⟩ ⟨fn, tmps', .inRegion ops is :: k', rdefers, .run, kind, ro⟩) (S : SRel φ Q cs cs') (R : Rel B w₀ Q φ A w) (hn : Q.Nodup) (hb : Bot f base cs) :
    SOut P T B w₀ f cs₀ (lone ⟨fn, tmps', .inRegion ops is :: k', rdefers, .run, kind, ro⟩ (cs' ++ cs₀) w) (stepRegion T base tmps defers cs A ops rest prev vals k) := by
  obtain ⟨_, is₁, k₁, e, hk, hr⟩ := F.body
  cases e
  have h := runOps_run (Q := Q) (fn := fn) (k := k') (defers := rdefers) (kind := kind) (ro := ro) (cs := cs' ++ cs₀) H F.keep rest G R F.nt hr
  unfold stepRegion
  split
  · rename_i t A₁ he
    rw [he] at h
    obtain ⟨φ', tmps'', w', g1, g2, g3, g4, g5, g6⟩ := h
    exact ⟨_, g6, φ', [], Q, _, cs', w', rfl, G.mono g1, ⟨F.fn, F.kind, g4, F.own, g5, F.round.mono g1, F.defers.mono g1, rfl, TodoRel.of_K (hk.mono g1) g3⟩, S.mono g1, g2, hn, hb⟩
  · rename_i rest₁ prev₁ vals₁ r A₁ he
    rw [he] at h
    obtain ⟨φ', tmps'', w', is', i, o, g1, g2, g3, g4, g5, g6, g7, g8, g9, g10⟩ := h
    refine SOut.of_steps g10 ?_
    exact apply_sim (Q := Q) (q := []) H (G.mono g1) (base := base) (tmps := tmps) (todo := .inRegion ops rest₁ prev₁ vals₁ :: k) (defers := defers)
      ⟨F.fn, F.kind, g5, F.own, F.keep, F.round.mono g1, F.defers.mono g1, rfl, rfl, _, _, rfl, hk.mono g1, g4⟩ (S.mono g1) hn hb g2 g3 g9 g6
  · trivial

noncomputable def putDst (keep : Tree Unit) (d : Option Tmp) (x : Option AV) (tmps : Tree AV) : Tree AV :=
  match d with
  | some d => match keep.get d with
    | some _ => tmps.put d (match x with | some v => some v | none => some .any)
    | none => tmps
  | none => tmps
theorem putDsts_cons (keep : Tree Unit) (o : Oper) (r : List Oper) (i : Nat) (vals tmps : Tree AV) : putDsts keep (o :: r) i vals tmps = putDsts keep r (i + 1) vals (putDst keep o.dst (vals.get i) tmps) := rfl
theorem putDst_get (keep : Tree Unit) (d : Option Tmp) (x : Option AV) (tmps : Tree AV) (t : Tmp) :
    (d = some t ∧ (∃ k, keep.get t = some k) ∧ getTmp (putDst keep d x tmps) t = anyOr x) ∨ (getTmp (putDst keep d x tmps) t = getTmp tmps t ∧ (d = some t → keep.get t = none)) := by
  unfold putDst
  cases d with
  | none => exact .inr ⟨rfl, fun h => by cases h⟩
  | some d =>
    simp only
    cases hk : keep.get d with
    | none => exact .inr ⟨rfl, fun h => by cases h; exact hk⟩
    | some k =>
      simp only
      by_cases ht : t = d
      · subst ht
        refine .inl ⟨rfl, ⟨k, hk⟩, ?_⟩
        unfold getTmp
        rw [Tree.get_put_self]
        cases x <;> rfl
      · refine .inr ⟨?_, fun h => by cases h; exact absurd rfl ht⟩
        unfold getTmp
        rw [Tree.get_put_ne _ _ _ ht]
theorem putDsts_get {keep : Tree Unit} {vals : Tree AV} (t : Tmp) : ∀ (r : List Oper) (i : Nat) (tmps : Tree AV),
    getTmp (putDsts keep r i vals tmps) t = .any ∨ (∃ j o, r[j]? = some o ∧ o.dst = some t ∧ vals.get (i + j) = some (getTmp (putDsts keep r i vals tmps) t)) ∨
      (getTmp (putDsts keep r i vals tmps) t = getTmp tmps t ∧ ∀ o ∈ r, o.dst = some t → keep.get t = none)
  | [], i, tmps => .inr (.inr ⟨rfl, by intro o ho; cases ho⟩)
  | o :: r, i, tmps => by
    rw [putDsts_cons]
    rcases putDsts_get (keep := keep) (vals := vals) t r (i + 1) (putDst keep o.dst (vals.get i) tmps) with h | ⟨j, p, h1, h2, h3⟩ | ⟨h1, h2⟩
    · exact .inl h
    · exact .inr (.inl ⟨j + 1, p, by simpa using h1, h2, by rw [← h3]; congr 1; omega⟩)
    · rw [h1]
      rcases putDst_get keep o.dst (vals.get i) tmps t with ⟨g1, _, g3⟩ | ⟨g1, g2⟩
      · rw [g3]
        cases hv : vals.get i with
        | none => exact .inl rfl
        | some v => exact .inr (.inl ⟨0, o, rfl, g1, hv⟩)
      · rw [g1]
        refine .inr (.inr ⟨rfl, fun p hp hpd => ?_⟩)
        rcases List.mem_cons.1 hp with rfl | hp
        · exact g2 hpd
        · exact h2 p hp hpd
theorem putDsts_ok {keep : Tree Unit} {vals : Tree AV} : ∀ (r : List Oper) (i : Nat) (tmps : Tree AV), KeepOk keep tmps → KeepOk keep (putDsts keep r i vals tmps)
  | [], _, _, h => h
  | o :: r, i, tmps, h => by
    rw [putDsts_cons]
    refine putDsts_ok r (i + 1) _ fun u hu => ?_
    rcases putDst_get keep o.dst (vals.get i) tmps u with ⟨_, ⟨k, hk⟩, _⟩ | ⟨g1, _⟩
    · rw [hu] at hk; cases hk
    · rw [g1]; exact h u hu

theorem pendOf_all {l : List Oper} {vals : Tree AV} {listed : Array Bool} (h : ∀ i, i < l.length → listed.getD i true = true) : pendOf l vals listed = [] := by
  unfold pendOf
  rw [List.filterMap_eq_nil_iff]
  intro i hi
  exact pendAt_listed (h i (List.mem_range.1 hi))

theorem stepDraw_sim (H : T.Ok P) (G : GlobOk T φ) {q : List Nat} {base : ABase} {tmps : Tree AV} {defers : List ADefer} {cs : List AFrame} {cs' : List Frame} {fn : FuncId} {tmps' : Array Value} {ops : Array Oper} {is : List Nat} {k : List AItem} {k' : List Item}
    {s : Nat} {vals : Tree AV} {rdefers : List Deferred} {kind : CallKind} {ro : Option Nat}
    (F : FRel φ q false ⟨base, tmps, .inDraw ops s vals :: k, defers, .run⟩ ⟨fn, tmps', .inRegion ops is :: k', rdefers, .run, kind, ro⟩) (S : SRel φ Q cs cs') (R : Rel B w₀ (q ++ Q) φ A w) (hn : (q ++ Q).Nodup) (hb : Bot f base cs) :
    SOut P T B w₀ f cs₀ (lone ⟨fn, tmps', .inRegion ops is :: k', rdefers, .run, kind, ro⟩ (cs' ++ cs₀) w) (stepDraw T base tmps defers cs A ops s vals k) := by
  obtain ⟨is₁, k₁, e, hk, ⟨Pl, fuel, t, listed, D, his, hf⟩, _⟩ := F.body
  cases e
  simp only [cond_false] at D
  unfold stepDraw
  rw [D.plan]
  simp only
  split
  · trivial
  · rename_i vals₁ A₁ hst
    obtain ⟨q₁, D₁, R₁, hn₁⟩ := stage_told D R hn hst
    cases hok : stageOk T ops.toList Pl s tmps vals₁ A₁ ops.toList 0 with
    | false => trivial
    | true =>
      simp only [cond_true]
      have hchk := fun j o m => stageOk_run (T := T) (ops := ops) (Pl := Pl) (s := s) (tmps := tmps) (vals := vals₁) (A := A₁) ops.toList [] (by simp) hok j o m (Nat.zero_le _)
      obtain ⟨φ', q', tmps'', w', fuel', t', listed', g1, D', hf', R', hn', hsz, hsteps, hend⟩ := draw_loop (fn := fn) (k := k') (defers := rdefers) (kind := kind) (ro := ro) (cs := cs' ++ cs₀) H hchk fuel (t := t) G D₁ hf R₁ hn₁ F.nt
      rw [his]
      refine SOut.of_steps hsteps ?_
      unfold actDraw
      split
      · rename_i hnone
        rcases hend with ⟨he, hall⟩ | ⟨i, o, r, _, hi, _⟩
        · rw [he]
          have hq : q' = [] := by
            have hp := D'.pend
            rw [pendOf_all (by rw [Array.length_toList]; exact hall)] at hp
            exact hp.eq_nil
          subst hq
          refine ⟨_, Steps.one step_regionEnd, φ', [], Q, _, cs', w', rfl, G.mono g1, ⟨F.fn, F.kind, hsz, F.own, putDsts_ok _ _ _ F.keep, F.round.mono g1, F.defers.mono g1, rfl, TodoRel.of_K (hk.mono g1) fun u => ?_⟩, S.mono g1, R', hn', hb⟩
          rcases putDsts_get (keep := base.keep) (vals := vals₁) u ops.toList 0 tmps with h | ⟨j, o, h1, h2, h3⟩ | ⟨h1, h2⟩
          · rw [h]; simp only [VRel]
          · rw [Nat.zero_add] at h3
            rw [Array.getElem?_toList] at h1
            obtain ⟨a, ha, hd⟩ := D'.done j o h1 (hall j (lt_of_some h1))
            rw [ha] at h3
            cases h3
            exact hd u h2
          · rw [h1]
            cases hku : base.keep.get u with
            | none => rw [F.keep u hku]; simp only [VRel]
            | some x =>
              refine D'.old u fun i o ho hd => ?_
              have := h2 o (List.mem_of_getElem? (by rw [Array.getElem?_toList]; exact ho)) hd
              rw [hku] at this; cases this
        · rw [hnone] at hi; cases hi
      · rename_i i hi
        rcases hend with ⟨he, hall⟩ | ⟨i', o, r, he, hi', ho, hl, hpre⟩
        · obtain ⟨o, ho, _⟩ := act_is D'.plan hi
          have := (D'.acts s i hi).1 (hall i (lt_of_some ho))
          omega
        · rw [hi] at hi'; cases hi'
          obtain ⟨m, hm, _⟩ := plan_mask D'.plan ho
          have hno : nth ops.toList i = some o := by rw [nth_array]; exact ho
          rw [hno, hm]
          simp only
          have hmask : ∀ j, bit m j = true → listed'.getD j false = true := mask_down D'.plan D'.size D'.down i o m ho hm hpre
          have hlt := lt_of_some ho
          have hlf : listed'.getD i false = false := by rw [← getD_flip (by rw [D'.size]; exact hlt)]; exact hl
          have F' : FRel φ' q' true ⟨base, tmps, .inDraw ops s vals₁ :: k, defers, .run⟩ ⟨fn, tmps'', .inRegion ops (i :: r) :: k', rdefers, .run, kind, ro⟩ :=
            ⟨F.fn, F.kind, hsz, F.own, F.keep, F.round.mono g1, F.defers.mono g1, rfl, i :: r, k', rfl, hk.mono g1, ⟨Pl, fuel', t', listed', D', he.symm, hf'⟩, fun _ => ⟨Pl, i, r, D'.plan, rfl, hi⟩⟩
          rw [he]
          split
          · trivial
          · rename_i hw
            have hwant := wantedD_rel D' hmask hw
            have hfin : finishTodo (.inDraw ops s vals₁ :: k) .undef = some (.inDraw ops (Nat.succ s) (vals₁.put i (some .undef)) :: k) := by
              unfold finishTodo
              simp only [D'.plan, hi]
            have := SOut.value (T := T) (P := P) (f := f) (cs₀ := cs₀) (m := lone ⟨fn, tmps'', .inRegion ops (i :: r) :: k', rdefers, .run, kind, ro⟩ (cs' ++ cs₀) w') (G.mono g1) F' (S.mono g1) R' hn' hb (undef_rel φ') (Steps.one (step_unwanted ho hwant))
            rw [hfin] at this
            exact this
          · rename_i hw
            have hwant := wantedD_rel D' hmask hw
            split
            · rename_i r' A₂ hex
              have hρ := drawEval_rel (T := T) (G.mono g1) D' hlf hmask (fr := ⟨fn, tmps'', .inRegion ops (i :: r) :: k', rdefers, .run, kind, ro⟩) rfl
              have hout := exec_run H R' hρ (o := o) hex
              exact apply_sim H (G.mono g1) F' (S.mono g1) hn' hb ho hwant (not_defer hex) hout
            · trivial
end
end Go.Abs
