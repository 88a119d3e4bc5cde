/- Steps of a whole machine: what an operation does to its frame. -/
import Derived.Test.YtfgefjpgmfjmjaaGreatDoorAbsStep2
namespace Go.Abs
open Go.RowKit (Below)

section
variable {T : Tabs} {P : Program} {B : Nat} {Q : List Nat} {w₀ w w' : World} {φ ψ : Inj} {A A' : AHeap} {f : FuncId} {cs₀ : List Frame}

theorem FRel.resume {q : List Nat} {wait : Bool} {a : AFrame} {fr : Frame} (F : FRel φ q wait a fr) {defers : List ADefer} {defers' : List Deferred} (hd : DefersRel φ defers defers') :
    FRel φ q wait { a with defers := defers } { fr with defers := defers' } :=
  ⟨F.fn, F.kind, F.nt, F.own, F.keep, F.round, hd, F.mode, F.body⟩

/-- A value for a frame, which goes on. -/
theorem SOut.value (G : GlobOk T φ) {q : List Nat} {base : ABase} {tmps : Tree AV} {todo : List AItem} {defers : List ADefer} {cs : List AFrame} {fr : Frame} {cs' : List Frame} {m : Machine}
    (F : FRel φ q true ⟨base, tmps, todo, defers, .run⟩ fr) (S : SRel φ Q cs cs') (R : Rel B w₀ (q ++ Q) φ A w) (hn : (q ++ Q).Nodup) (hb : Bot f base cs) {v : AV} {v' : Value} (hv : VRel φ v v')
    (hs : Steps P m (lone (fr.finish v') (cs' ++ cs₀) w)) : SOut P T B w₀ f cs₀ m (contWith base tmps defers .run cs A (finishTodo todo v)) := by
  cases h : finishTodo todo v with
  | none => trivial
  | some todo' =>
    obtain ⟨q', F', hp⟩ := finish_rel F hv h
    have hp' := hp.append_right Q
    exact ⟨_, hs, φ, q', Q, _, cs', w, rfl, G, F', S, R.lessQ fun b hb => hp'.mem_iff.1 hb, hp'.nodup_iff.2 hn, hb⟩

theorem putAll_rel {keep : Tree Unit} {nt : Nat} : ∀ (ts : List Tmp) (args : List AV) {vs : List Value} {tmps : Tree AV} {arr : Array Value}, allBelow nt ts = true → args.length = ts.length → LRel φ args vs → arr.size = nt → TRel φ tmps arr → KeepOk keep tmps →
    TRel φ (putAll keep ts args tmps) ((ts.zip vs).foldl (fun a x => a.setIfInBounds x.1 x.2) arr) ∧ ((ts.zip vs).foldl (fun a x => a.setIfInBounds x.1 x.2) arr).size = nt ∧ KeepOk keep (putAll keep ts args tmps)
  | [], [], vs, tmps, arr, _, _, hv, hn, ht, hk => by
    simp only [LRel] at hv; subst hv
    exact ⟨ht, hn, hk⟩
  | t :: ts, [], _, _, _, _, hl, _, _, _, _ => by simp at hl
  | [], a :: args, _, _, _, _, hl, _, _, _, _ => by simp at hl
  | t :: ts, a :: args, vs, tmps, arr, hb, hl, hv, hn, ht, hk => by
    simp only [LRel] at hv
    obtain ⟨v, vs', rfl, ha, hv'⟩ := hv
    simp only [allBelow, Bool.and_eq_true] at hb
    have hlt : t < nt := by simpa using hb.1
    refine putAll_rel ts args (tmps := putKept keep tmps t a) (arr := arr.setIfInBounds t v) hb.2 (by simpa using hl) hv' (by rw [Array.size_setIfInBounds]; exact hn) (fun u => ?_) (putKept_ok hk t a)
    rw [putKept_get, getD_setIfInBounds _ _ _ _ (by rw [hn]; exact hlt)]
    by_cases hu : u = t
    · subst hu
      rw [if_pos rfl]
      split
      · exact ha
      · rename_i hc
        have : keep.get u = none := by
          cases hx : keep.get u with
          | none => rfl
          | some y => exact absurd ⟨rfl, by rw [hx]; rfl⟩ hc
        rw [hk u this]; simp only [VRel]
    · rw [if_neg hu, if_neg (fun hc => hu hc.1)]; exact ht u

section
variable {fn : FuncId} {tmps' : Array Value} {ops : Array Oper} {i : Nat} {is : List Nat} {k : List Item} {rdefers : List Deferred} {kind : CallKind} {ro : Option Nat} {cs' : List Frame} {o : Oper}

theorem step_enter {g : FuncId} {vs : Array Value} (ho : ops[i]? = some o) (hw : Region.wanted o (yielded ops tmps') = true) (hd : ro = none ∨ ∀ c, o.op ≠ .defer c)
    (hr : (execOp (Frame.eval ⟨fn, tmps', .inRegion ops (i :: is) :: k, rdefers, .run, kind, ro⟩) o).run P w = .ok (.enter g vs) w') :
    Go.step P (lone ⟨fn, tmps', .inRegion ops (i :: is) :: k, rdefers, .run, kind, ro⟩ cs' w) =
      .next (lone (Frame.enter P g vs .normal) (⟨fn, tmps', .inRegion ops (i :: is) :: k, rdefers, .run, kind, ro⟩ :: cs') w') :=
  step_lone_go (by rw [stepG_oper ho hw hd]; simp [stepG.apply, hr])
theorem step_round {l : Nat} {g : FuncId} {vs : Array Value} {x y : Code} (ho : ops[i]? = some o) (hw : Region.wanted o (yielded ops tmps') = true) (hd : ro = none ∨ ∀ c, o.op ≠ .defer c)
    (hr : (execOp (Frame.eval ⟨fn, tmps', .inRegion ops (i :: is) :: k, rdefers, .run, kind, ro⟩) o).run P w = .ok (.round l g vs x y) w') :
    Go.step P (lone ⟨fn, tmps', .inRegion ops (i :: is) :: k, rdefers, .run, kind, ro⟩ cs' w) =
      .next (lone (Frame.round l g vs x y .normal) (⟨fn, tmps', .inRegion ops (i :: is) :: k, rdefers, .run, kind, ro⟩ :: cs') w') :=
  step_lone_go (by rw [stepG_oper ho hw hd]; simp [stepG.apply, hr])
theorem step_defer {d : Deferred} (ho : ops[i]? = some o) (hw : Region.wanted o (yielded ops tmps') = true)
    (hr : (execOp (Frame.eval ⟨fn, tmps', .inRegion ops (i :: is) :: k, rdefers, .run, kind, none⟩) o).run P w = .ok (.defer d) w') :
    Go.step P (lone ⟨fn, tmps', .inRegion ops (i :: is) :: k, rdefers, .run, kind, none⟩ cs' w) =
      .next (lone (Frame.finish ⟨fn, tmps', .inRegion ops (i :: is) :: k, d :: rdefers, .run, kind, none⟩ undef) cs' w') :=
  step_lone_go (by rw [stepG_oper ho hw (.inl rfl)]; simp [stepG.apply, hr])
theorem step_panic {v : Value} (ho : ops[i]? = some o) (hw : Region.wanted o (yielded ops tmps') = true) (hd : ro = none ∨ ∀ c, o.op ≠ .defer c)
    (hr : (execOp (Frame.eval ⟨fn, tmps', .inRegion ops (i :: is) :: k, rdefers, .run, kind, ro⟩) o).run P w = .halt (.panic v) w') :
    Go.step P (lone ⟨fn, tmps', .inRegion ops (i :: is) :: k, rdefers, .run, kind, ro⟩ cs' w) =
      .next (lone (Frame.raise ⟨fn, tmps', .inRegion ops (i :: is) :: k, rdefers, .run, kind, ro⟩ [{ v, recovered := false }]) cs' w') :=
  step_lone_go (by rw [stepG_oper ho hw hd]; simp [stepG.apply, hr])
theorem step_recover_some {v : Value} {cs₁ : List Frame} (ho : ops[i]? = some o) (hw : Region.wanted o (yielded ops tmps') = true)
    (hr : (execOp (Frame.eval ⟨fn, tmps', .inRegion ops (i :: is) :: k, rdefers, .run, kind, none⟩) o).run P w = .ok .recover w')
    (ht : tryRecover ⟨fn, tmps', .inRegion ops (i :: is) :: k, rdefers, .run, kind, none⟩ cs' = some (v, cs₁)) :
    Go.step P (lone ⟨fn, tmps', .inRegion ops (i :: is) :: k, rdefers, .run, kind, none⟩ cs' w) =
      .next (lone (Frame.finish ⟨fn, tmps', .inRegion ops (i :: is) :: k, rdefers, .run, kind, none⟩ v) cs₁ w') :=
  step_lone_go (by rw [stepG_oper ho hw (.inl rfl)]; simp [stepG.apply, hr, ht])
theorem step_recover_none (ho : ops[i]? = some o) (hw : Region.wanted o (yielded ops tmps') = true)
    (hr : (execOp (Frame.eval ⟨fn, tmps', .inRegion ops (i :: is) :: k, rdefers, .run, kind, none⟩) o).run P w = .ok .recover w')
    (ht : tryRecover ⟨fn, tmps', .inRegion ops (i :: is) :: k, rdefers, .run, kind, none⟩ cs' = none) :
    Go.step P (lone ⟨fn, tmps', .inRegion ops (i :: is) :: k, rdefers, .run, kind, none⟩ cs' w) =
      .next (lone (Frame.finish ⟨fn, tmps', .inRegion ops (i :: is) :: k, rdefers, .run, kind, none⟩ .nilIface) cs' w') :=
  step_lone_go (by rw [stepG_oper ho hw (.inl rfl)]; simp [stepG.apply, hr, ht])
end

theorem loop_of (R : Rel B w₀ Q φ A w) {l N : Nat} {d : Int} {r : ALoop} (h : A.objs.get l = some (.loop r)) (hφ : φ l = some (N, d)) : ∃ r', w.heap[N]? = some (.loop r') ∧ LoopRel φ r r' := by
  obtain ⟨y, hy, r', rfl, hr⟩ := R.obj l _ N d h hφ
  exact ⟨r', hy, hr⟩
theorem getLoop_run {N : Nat} {r : Loop} (h : w.heap[N]? = some (.loop r)) : (Instr.getLoop N).run P w = .ok r w := by
  simp [Instr.getLoop, getObj_run h (by intro _ _ _ h; cases h)]
theorem getLoop_some {A : AHeap} {l : Nat} {r : ALoop} (h : getLoop A l = some r) : A.objs.get l = some (.loop r) := by
  unfold getLoop at h
  split at h
  · rename_i r' hr; cases h; exact hr
  · cases h

/-- What an operation does to the frame that stands at it. -/
theorem apply_sim (H : T.Ok P) (G : GlobOk T φ) {q : List Nat} {base : ABase} {tmps : Tree AV} {todo : List AItem} {defers : List ADefer} {cs : List AFrame} {cs' : List Frame} {fn : FuncId} {tmps' : Array Value} {ops : Array Oper} {i : Nat} {is : List Nat} {k : List Item}
    {rdefers : List Deferred} {kind : CallKind} {ro : Option Nat} {o : Oper} {r : ARes}
    (F : FRel φ q true ⟨base, tmps, todo, defers, .run⟩ ⟨fn, tmps', .inRegion ops (i :: is) :: k, rdefers, .run, kind, ro⟩) (S : SRel φ Q cs cs') (hn : (q ++ Q).Nodup) (hb : Bot f base cs)
    (ho : ops[i]? = some o) (hw : Region.wanted o (yielded ops tmps') = true) (hd : (∀ d, r ≠ .defer d) → ∀ c, o.op ≠ .defer c)
    (hout : Out P B w₀ (q ++ Q) φ w A' r (execOp (Frame.eval ⟨fn, tmps', .inRegion ops (i :: is) :: k, rdefers, .run, kind, ro⟩) o)) :
    SOut P T B w₀ f cs₀ (lone ⟨fn, tmps', .inRegion ops (i :: is) :: k, rdefers, .run, kind, ro⟩ (cs' ++ cs₀) w) (apply T ⟨base, tmps, todo, defers, .run⟩ cs r A') := by
  cases r with
  | val v =>
    obtain ⟨φ', v', w', g1, g2, g3, g4⟩ := hout
    exact SOut.value (G.mono g2) (F.mono g2) (S.mono g2) g3 hn hb g4 (Steps.one (step_val ho hw (.inr (hd (by intro d h; cases h))) g1))
  | skip =>
    obtain ⟨φ', w', g1, g2, g3⟩ := hout
    exact SOut.value (G.mono g2) (F.mono g2) (S.mono g2) g3 hn hb (undef_rel φ') (Steps.one (step_skipped ho hw (.inr (hd (by intro d h; cases h))) g1))
  | enter g args =>
    obtain ⟨vs, g1, g2, g3⟩ := hout
    show SOut P T B w₀ f cs₀ _ (enterStep T ⟨base, tmps, todo, defers, .run⟩ cs g args A')
    unfold enterStep
    split
    · rename_i c hc
      obtain ⟨F', h1, h2, h3, h4⟩ := enter_rel H hc g2
      refine ⟨_, Steps.one (step_enter ho hw (.inr (hd (by intro d h; cases h))) g1), φ, [], q ++ Q, _, _ :: cs', w, rfl, G, F', .cons F S, g3, hn, ?_⟩
      exact ⟨fun _ => rfl, fun h => (by rw [h2] at h; cases h), hb⟩
    · trivial
  | round l args =>
    obtain ⟨N, d, vs, g0, g1, g2, g3⟩ := hout
    show SOut P T B w₀ f cs₀ _ (roundStep ⟨base, tmps, todo, defers, .run⟩ cs l args A')
    unfold roundStep
    split
    · rename_i r hr
      obtain ⟨r', hr', hL⟩ := loop_of g3 (getLoop_some hr) g0
      obtain ⟨st, pend, lfn, ltmps, lnt, lkeep, params, assign, body, ldefers⟩ := r
      obtain ⟨rst, rpend, rfn, rtmps, rparams, rassign, rbody, rdef⟩ := r'
      obtain ⟨e1, e2, e3, e4, e5, e6, e7, e8, e9, e10⟩ := hL
      simp only at e1 e2 e3 e4 e5 e6 e7 e8 e9 e10
      subst e1; subst e2; subst e3; subst e8; subst e9; subst e7
      unfold roundWith
      simp only
      cases hb1 : Nat.beq args.length rparams.toList.length with
      | false => trivial
      | true =>
        cases hb2 : allBelow lnt rparams.toList with
        | false => trivial
        | true =>
          have hlen := Nat.eq_of_beq_eq_true hb1
          have hvl := g2.length
          simp only [Array.length_toList] at hlen hvl
          obtain ⟨ht, hsz, hko⟩ := putAll_rel (keep := lkeep) rparams.toList args hb2 (by simpa using hlen) g2 e5 e4 e6
          have hrun : (execOp (Frame.eval ⟨fn, tmps', .inRegion ops (i :: is) :: k, rdefers, .run, kind, ro⟩) o).run P w =
              .ok (.round N rfn ((rparams.toList.zip vs.toList).foldl (fun a x => a.setIfInBounds x.1 x.2) rtmps) rassign rbody) w := by
            rw [g1]
            have hne : vs.size = rparams.size := by omega
            simp [Instr.yield, getLoop_run hr', hne]
            have hz : (rparams.zip vs).size = rparams.size := by simp [hne]
            rw [← hz, ← Array.foldl_toList, Array.toList_zip]
          refine ⟨_, Steps.one (step_round ho hw (.inr (hd (by intro d h; cases h))) hrun), φ, [], q ++ Q, _, _ :: cs', w, rfl, G, ?_, .cons F S, g3, hn, ⟨fun _ => rfl, fun h => (by cases h), hb⟩⟩
          exact ⟨rfl, rfl, hsz, fun _ => rfl, hko, ⟨N, d, g0, rfl⟩, .nil, rfl, rfl, .cons rfl (.cons rfl (.cons rfl .nil)), ht⟩
    · trivial
  | defer d =>
    obtain ⟨e, g1, g2, g3⟩ := hout
    show SOut P T B w₀ f cs₀ _ (deferStep ⟨base, tmps, todo, defers, .run⟩ cs d A')
    unfold deferStep
    simp only
    split
    · rename_i hro
      have hr : ro = none := by
        have := F.round
        rw [show (AFrame.mk base tmps todo defers .run).base.roundOf = none from hro] at this
        exact this
      subst hr
      exact SOut.value G (F.resume (.cons (d := .call d) g2 F.defers)) S g3 hn hb (undef_rel φ) (Steps.one (step_defer ho hw g1))
    · trivial
  | recover =>
    obtain ⟨g1, g3⟩ := hout
    show SOut P T B w₀ f cs₀ _ (recoverStep ⟨base, tmps, todo, defers, .run⟩ cs A')
    unfold recoverStep
    simp only
    split
    · rename_i bfn bnt bkeep
      have hr : ro = none := F.round
      have hk : kind = .deferred := F.kind
      subst hr; subst hk
      split
      · rename_i base' tm' td' df' v older rest
        cases S with
        | @cons q₁ Q₁ _ c _ cs₁ hf hS =>
          obtain ⟨cfn, ctmps, ctodo, cdefers, cmode, ckind, cro⟩ := c
          obtain ⟨c', e, hp⟩ := hf.mode
          replace e : cmode = _ := e
          subst e
          cases hp with
          | @cons _ v' _ c₂ _ hv ho' =>
            have ht : tryRecover ⟨fn, tmps', .inRegion ops (i :: is) :: k, rdefers, .run, .deferred, none⟩ (⟨cfn, ctmps, ctodo, cdefers, .panicking ({ v := v', recovered := false, goexit := false } :: c₂), ckind, cro⟩ :: (cs₁ ++ cs₀)) =
                some (v', ⟨cfn, ctmps, ctodo, cdefers, .panicking ({ v := v', recovered := true, goexit := false } :: c₂), ckind, cro⟩ :: (cs₁ ++ cs₀)) := rfl
            have hf' : FRel φ q₁ true ⟨base', tm', td', df', .panicking (⟨v, true⟩ :: older)⟩ ⟨cfn, ctmps, ctodo, cdefers, .panicking ({ v := v', recovered := true, goexit := false } :: c₂), ckind, cro⟩ :=
              ⟨hf.fn, hf.kind, hf.nt, hf.own, hf.keep, hf.round, hf.defers, ⟨_, rfl, .cons hv ho'⟩, hf.body⟩
            exact SOut.value (cs' := _ :: cs₁) G F (.cons hf' hS) g3 hn ⟨fun h => (by cases h), fun _ => (by intro h; cases h), hb.2.2⟩ hv (Steps.one (step_recover_some ho hw g1 ht))
      · rename_i c rest hnot
        cases S with
        | @cons q₁ Q₁ _ c' _ cs₁ hf hS =>
          obtain ⟨cb, ctm, ctd, cdf, cm⟩ := c
          have ht : tryRecover ⟨fn, tmps', .inRegion ops (i :: is) :: k, rdefers, .run, .deferred, none⟩ (c' :: (cs₁ ++ cs₀)) = none := by
            have hm := hf.mode
            obtain ⟨cfn, ctmps, ctodo, cdefers, cmode, ckind, cro⟩ := c'
            cases cm with
            | run => replace hm : cmode = .run := hm; subst hm; rfl
            | returning => replace hm : cmode = .returning := hm; subst hm; rfl
            | panicking ch =>
              obtain ⟨ch', e, hp⟩ := hm
              replace e : cmode = _ := e
              subst e
              cases hp with
              | nil => rfl
              | @cons a v' c₁ c₂ rr hv ho' =>
                cases rr with
                | true => rfl
                | false => exact absurd rfl (hnot _ _ _ _ _ _)
          exact SOut.value (cs' := c' :: cs₁) G F (.cons hf hS) g3 hn hb (by simp only [VRel]) (Steps.one (step_recover_none ho hw g1 ht))
      · trivial
    · trivial
  | panic v =>
    obtain ⟨v', g1, g2, g3⟩ := hout
    have hp : PanRel φ [⟨v, false⟩] [{ v := v', recovered := false, goexit := false }] := .cons g2 .nil
    refine ⟨_, Steps.one (step_panic ho hw (.inr (hd (by intro d h; cases h))) g1), φ, [], Q, _, cs', w, rfl, G, raise_rel F hp, S, g3.lessQ fun b hb => by simp at hb; simp [hb], (List.nodup_append.1 hn).2.1, ?_⟩
    rw [show (raise ⟨base, tmps, todo, defers, .run⟩ [⟨v, false⟩]).base = base from raise_base _ _]
    exact hb
end
end Go.Abs
