/- Regions that draw their order: what is told ahead of a stage. -/
import Derived.Test.YtfgefjpgmfjmjaaGreatDoorAbsDraw2
namespace Go.Abs
open Go.RowKit (Below)

section
variable {T : Tabs} {P : Program} {B : Nat} {Q : List Nat} {w₀ w w' : World} {φ ψ : Inj} {A A' : AHeap}

theorem filterMap_same {g g' : Nat → Option Nat} : ∀ {L : List Nat}, (∀ j ∈ L, g' j = g j) → L.filterMap g' = L.filterMap g
  | [], _ => rfl
  | x :: L, h => by
    rw [List.filterMap_cons, List.filterMap_cons, h x (by simp), filterMap_same fun j hj => h j (List.mem_cons_of_mem _ hj)]

theorem filterMap_perm {g g' : Nat → Option Nat} {i b : Nat} : ∀ {L : List Nat}, L.Nodup → i ∈ L → (∀ j ∈ L, j ≠ i → g' j = g j) → g i = none → g' i = some b → (L.filterMap g').Perm (b :: L.filterMap g)
  | [], _, h, _, _, _ => by cases h
  | x :: L, hn, hm, hc, h1, h2 => by
    have hn' := List.nodup_cons.1 hn
    by_cases hx : x = i
    · subst hx
      have : L.filterMap g' = L.filterMap g := filterMap_same fun j hj => hc j (List.mem_cons_of_mem _ hj) (by rintro rfl; exact hn'.1 hj)
      rw [List.filterMap_cons, List.filterMap_cons, h1, h2, this]
    · have hm' : i ∈ L := by
        rcases List.mem_cons.1 hm with h | h
        · exact absurd h.symm hx
        · exact h
      have ih := filterMap_perm hn'.2 hm' (fun j hj => hc j (List.mem_cons_of_mem _ hj)) h1 h2
      rw [List.filterMap_cons, List.filterMap_cons, hc x (by simp) hx]
      cases g x with
      | none => exact ih
      | some y => exact (ih.cons y).trans (List.Perm.swap b y _)

theorem pendAt_of {l : List Oper} {vals : Tree AV} {listed : Array Bool} {i : Nat} {o : Oper} (ho : nth l i = some o) (hl : listed.getD i true = false) : pendAt l vals listed i = if makes o.op then (vals.get i).bind blockOf else none := by
  unfold pendAt; rw [ho, hl]
theorem pendAt_listed {l : List Oper} {vals : Tree AV} {listed : Array Bool} {i : Nat} (hl : listed.getD i true = true) : pendAt l vals listed i = none := by
  unfold pendAt; rw [hl]

theorem pendAt_other {l : List Oper} {vals vals' : Tree AV} {listed : Array Bool} {j : Nat} (h : vals'.get j = vals.get j) : pendAt l vals' listed j = pendAt l vals listed j := by
  unfold pendAt; rw [h]

theorem blockOf_made (b : Nat) (sl : Option (Nat × Nat)) : blockOf (madeVal b sl) = some b := by
  cases sl <;> rfl

/-- What is pending does not change where nothing is made. -/
theorem pendOf_same {l : List Oper} {vals vals' : Tree AV} {listed : Array Bool} {i : Nat} {o : Oper} (ho : nth l i = some o) (hs : ∀ j, j ≠ i → vals'.get j = vals.get j)
    (h : makes o.op = false ∨ ((vals.get i).bind blockOf = none ∧ (vals'.get i).bind blockOf = none)) : pendOf l vals' listed = pendOf l vals listed := by
  unfold pendOf
  apply filterMap_same
  intro j _
  by_cases hj : j = i
  · subst hj
    cases hl : listed.getD j true with
    | true => rw [pendAt_listed hl, pendAt_listed hl]
    | false =>
      rw [pendAt_of ho hl, pendAt_of ho hl]
      rcases h with h | ⟨h1, h2⟩
      · rw [h]; rfl
      · rw [h1, h2]
  · exact pendAt_other (hs j hj)

theorem pendOf_more {l : List Oper} {vals vals' : Tree AV} {listed : Array Bool} {i b : Nat} {o : Oper} (ho : nth l i = some o) (hl : listed.getD i true = false) (hs : ∀ j, j ≠ i → vals'.get j = vals.get j) (hm : makes o.op = true)
    (h1 : vals.get i = none) {x : AV} (h2 : vals'.get i = some x) (h3 : blockOf x = some b) : (pendOf l vals' listed).Perm (b :: pendOf l vals listed) := by
  unfold pendOf
  have hi : i < l.length := by
    rw [nth_eq] at ho
    rcases Nat.lt_or_ge i l.length with h | h
    · exact h
    · rw [List.getElem?_eq_none h] at ho; cases ho
  refine filterMap_perm List.nodup_range (List.mem_range.2 hi) (fun j _ hj => pendAt_other (hs j hj)) ?_ ?_
  · rw [pendAt_of ho hl, h1, hm]; rfl
  · rw [pendAt_of ho hl, h2, hm]; exact h3

section
variable {q : List Nat} {nt s c : Nat} {ops : Array Oper} {Pl : Plan} {tmps : Tree AV} {tmps' : Array Value} {listed : Array Bool}

/-- Of the operations from a place on, those of a stage are to be told. -/
structure Told (B : Nat) (w₀ : World) (Q : List Nat) (φ : Inj) (ops : Array Oper) (Pl : Plan) (listed : Array Bool) (s i : Nat) (vals₀ vals : Tree AV) (A : AHeap) (w : World) (q : List Nat) : Prop where
  same : ∀ j, listed.getD j true = true → vals.get j = vals₀.get j
  told : ∀ j o m, ops[j]? = some o → nth Pl.masks j = some m → actsOp o.op = false → (loStage m Pl.acts < s ∨ (loStage m Pl.acts = s ∧ j < i)) → (vals.get j).isSome = true
  untold : ∀ j o m, ops[j]? = some o → nth Pl.masks j = some m → actsOp o.op = false → (s < loStage m Pl.acts ∨ (loStage m Pl.acts = s ∧ i ≤ j)) → vals.get j = none
  pend : q.Perm (pendOf ops.toList vals listed)
  rel : Rel B w₀ (q ++ Q) φ A w
  nodup : (q ++ Q).Nodup

theorem Told.skip {i : Nat} {vals₀ vals : Tree AV} (W : Told B w₀ Q φ ops Pl listed s i vals₀ vals A w q) {o : Oper} (ho : ops[i]? = some o) (h : actsOp o.op = true ∨ ∀ m, nth Pl.masks i = some m → loStage m Pl.acts ≠ s) :
    Told B w₀ Q φ ops Pl listed s (i + 1) vals₀ vals A w q := by
  refine ⟨W.same, ?_, ?_, W.pend, W.rel, W.nodup⟩
  · intro j p m hp hm ha hc
    refine W.told j p m hp hm ha ?_
    rcases hc with hc | ⟨hc, hj⟩
    · exact .inl hc
    · by_cases hji : j = i
      · subst hji
        rw [ho] at hp; cases hp
        rcases h with h | h
        · rw [h] at ha; cases ha
        · exact absurd hc (h m hm)
      · exact .inr ⟨hc, by omega⟩
  · intro j p m hp hm ha hc
    refine W.untold j p m hp hm ha ?_
    rcases hc with hc | ⟨hc, hj⟩
    · exact .inl hc
    · exact .inr ⟨hc, by omega⟩

theorem Told.put {i : Nat} {vals₀ vals : Tree AV} (W : Told B w₀ Q φ ops Pl listed s i vals₀ vals A w q) {o : Oper} (ho : ops[i]? = some o) {m : Nat} (hm : nth Pl.masks i = some m) (hlo : loStage m Pl.acts = s) (hl : listed.getD i true = false)
    {x : AV} {q' : List Nat} (hp : q'.Perm (pendOf ops.toList (vals.put i (some x)) listed)) (hR : Rel B w₀ (q' ++ Q) φ A' w) (hn : (q' ++ Q).Nodup) :
    Told B w₀ Q φ ops Pl listed s (i + 1) vals₀ (vals.put i (some x)) A' w q' := by
  refine ⟨?_, ?_, ?_, hp, hR, hn⟩
  · intro j hj
    have : j ≠ i := by rintro rfl; rw [hl] at hj; cases hj
    rw [Tree.get_put_ne _ _ _ this]; exact W.same j hj
  · intro j p m' hp' hm' ha hc
    by_cases hji : j = i
    · subst hji; rw [Tree.get_put_self]; rfl
    · rw [Tree.get_put_ne _ _ _ hji]
      refine W.told j p m' hp' hm' ha ?_
      rcases hc with hc | ⟨hc, hj⟩
      · exact .inl hc
      · exact .inr ⟨hc, by omega⟩
  · intro j p m' hp' hm' ha hc
    by_cases hji : j = i
    · subst hji
      rw [hm] at hm'; cases hm'
      rcases hc with hc | ⟨_, hj⟩ <;> omega
    · rw [Tree.get_put_ne _ _ _ hji]
      refine W.untold j p m' hp' hm' ha ?_
      rcases hc with hc | ⟨hc, hj⟩
      · exact .inl hc
      · exact .inr ⟨hc, by omega⟩

theorem stageOps_run {vals₀ : Tree AV} (D : Draw φ q nt ops Pl s s vals₀ tmps tmps' listed) :
    ∀ (r pre : List Oper) {vals : Tree AV} {A : AHeap} {q : List Nat} {vals' : Tree AV} {A' : AHeap}, ops.toList = pre ++ r → Told B w₀ Q φ ops Pl listed s pre.length vals₀ vals A w q →
      stageOps T ops.toList Pl s tmps r pre.length vals A = some (vals', A') → ∃ q', Told B w₀ Q φ ops Pl listed s ops.size vals₀ vals' A' w q'
  | [], pre, vals, A, q, vals', A', hl, W, h => by
    simp only [stageOps] at h
    cases h
    have : pre.length = ops.size := by rw [← Array.length_toList, hl]; simp
    rw [this] at W
    exact ⟨q, W⟩
  | o :: r, pre, vals, A, q, vals', A', hl, W, h => by
    have ho : ops[pre.length]? = some o := by rw [← Array.getElem?_toList, hl]; simp
    have hno : nth ops.toList pre.length = some o := by rw [nth_array]; exact ho
    have hl' : ops.toList = (pre ++ [o]) ++ r := by rw [hl]; simp
    have hlen : (pre ++ [o]).length = pre.length + 1 := by simp
    have on : ∀ {vals₁ : Tree AV} {A₁ : AHeap} {q₁ : List Nat}, Told B w₀ Q φ ops Pl listed s (pre.length + 1) vals₀ vals₁ A₁ w q₁ → stageOps T ops.toList Pl s tmps r (pre.length + 1) vals₁ A₁ = some (vals', A') →
        ∃ q', Told B w₀ Q φ ops Pl listed s ops.size vals₀ vals' A' w q' := by
      intro vals₁ A₁ q₁ W₁ h₁
      rw [← hlen] at W₁ h₁
      exact stageOps_run D r (pre ++ [o]) hl' W₁ h₁
    unfold stageOps at h
    cases ha : actsOp o.op with
    | true =>
      rw [ha] at h
      simp only [cond_true] at h
      exact on (W.skip ho (.inl ha)) h
    | false =>
      rw [ha] at h
      simp only [cond_false] at h
      split at h
      · cases h
      · rename_i m hm
        cases hb : Nat.beq (loStage m Pl.acts) s with
        | false =>
          rw [hb] at h
          simp only [cond_false] at h
          refine on (W.skip ho (.inr fun m' hm' => ?_)) h
          rw [hm] at hm'; cases hm'
          intro e
          rw [e, Nat.beq_refl] at hb; cases hb
        | true =>
          rw [hb] at h
          simp only [cond_true] at h
          have hlo := Nat.eq_of_beq_eq_true hb
          have hun : vals.get pre.length = none := W.untold _ o m ho hm ha (.inr ⟨hlo, Nat.le_refl _⟩)
          have hli : listed.getD pre.length true = false := by
            cases hx : listed.getD pre.length true with
            | false => rfl
            | true =>
              obtain ⟨a, ha', _⟩ := D.done _ o ho hx
              have := D.untold _ o m ho hm ha (by omega)
              rw [ha'] at this; cases this
          split at h
          · cases h
          · refine on (W.put ho hm hlo hli (q' := q) ?_ W.rel W.nodup) h
            rw [pendOf_same hno (fun j hj => Tree.get_put_ne _ _ _ hj) (.inr ⟨by rw [hun]; rfl, by rw [Tree.get_put_self]; rfl⟩)]
            exact W.pend
          · split at h
            · rename_i vals₁ A₁ hone
              cases hmk : makes o.op with
              | false =>
                rw [hmk] at hone
                simp only [cond_false] at hone
                unfold tellOne at hone
                split at hone
                · cases hone
                  refine on (W.put ho hm hlo hli (q' := q) ?_ W.rel W.nodup) h
                  rw [pendOf_same hno (fun j hj => Tree.get_put_ne _ _ _ hj) (.inl hmk)]
                  exact W.pend
                · cases hone
              | true =>
                rw [hmk] at hone
                simp only [cond_true] at hone
                unfold makeOne at hone
                split at hone
                · rename_i e cs sl hmd
                  cases hall : allOne cs with
                  | false => rw [hall] at hone; cases hone
                  | true =>
                    rw [hall] at hone
                    simp only [cond_true] at hone
                    cases he : A.newRow e cs with
                    | mk b A₂ =>
                      rw [he] at hone
                      cases hone
                      obtain ⟨hbn, hR⟩ := W.rel.ghost he
                      have hfresh : b ∉ q ++ Q := by
                        intro hm'
                        have := (W.rel.pend b hm').2
                        omega
                      refine on (W.put ho hm hlo hli (q' := b :: q) ?_ hR (List.nodup_cons.2 ⟨hfresh, W.nodup⟩)) h
                      exact ((W.pend.cons b).trans (pendOf_more hno hli (fun j hj => Tree.get_put_ne _ _ _ hj) hmk hun (Tree.get_put_self _ _ _) (blockOf_made b sl)).symm)
                · cases hone
            · cases h

/-- The stage is told. -/
theorem stage_told {vals vals' : Tree AV} (D : Draw φ q nt ops Pl s s vals tmps tmps' listed) (R : Rel B w₀ (q ++ Q) φ A w) (hn : (q ++ Q).Nodup) (h : stageOps T ops.toList Pl s tmps ops.toList 0 vals A = some (vals', A')) :
    ∃ q', Draw φ q' nt ops Pl s (s + 1) vals' tmps tmps' listed ∧ Rel B w₀ (q' ++ Q) φ A' w ∧ (q' ++ Q).Nodup := by
  have W : Told B w₀ Q φ ops Pl listed s ([] : List Oper).length vals vals A w q := by
    refine ⟨fun _ _ => rfl, ?_, ?_, D.pend, R, hn⟩
    · intro j o m ho hm ha hc
      rcases hc with hc | ⟨_, hc⟩
      · exact D.told j o m ho hm ha hc
      · simp at hc
    · intro j o m ho hm ha hc
      exact D.untold j o m ho hm ha (by rcases hc with hc | ⟨hc, _⟩ <;> omega)
  obtain ⟨q', W'⟩ := stageOps_run D ops.toList [] (by simp) W h
  refine ⟨q', ⟨D.plan, D.size, D.down, D.acts, D.le, ?_, ?_, ?_, D.old, W'.pend, D.dsts⟩, W'.rel, W'.nodup⟩
  · intro j o m ho hm ha hlo
    refine W'.told j o m ho hm ha ?_
    have := lt_of_some ho
    by_cases h : loStage m Pl.acts = s
    · exact .inr ⟨h, this⟩
    · exact .inl (by omega)
  · intro j o m ho hm ha hlo
    exact W'.untold j o m ho hm ha (.inl (by omega))
  · intro j o ho hl
    rw [W'.same j hl]
    exact D.done j o ho hl

/-! What is checked -/

/-- What is known of an operation that may be done at a stage. -/
def Fine (T : Tabs) (ops : Array Oper) (Pl : Plan) (tmps vals : Tree AV) (A : AHeap) (i m : Nat) (o : Oper) : Prop :=
  ∃ b, wantedD ops.toList m vals o = some b ∧ match b with
    | false => vals.get i = some .undef
    | true => ∃ u, vals.get i = some u ∧ if makes o.op then untouched A (madeOf T (drawEval T ops.toList Pl.masks i m tmps vals) o.op) u = true else
        ∃ A₁, exec T (drawEval T ops.toList Pl.masks i m tmps vals) A o.op = some (.val u, A₁)

theorem stageOk_run {vals : Tree AV} : ∀ (r pre : List Oper), ops.toList = pre ++ r → stageOk T ops.toList Pl s tmps vals A r pre.length = true →
    ∀ j o m, pre.length ≤ j → ops[j]? = some o → nth Pl.masks j = some m → actsOp o.op = false → loStage m Pl.acts ≤ s → s ≤ hiStage Pl.masks j Pl.acts → Fine T ops Pl tmps vals A j m o
  | [], pre, hl, _ => by
    intro j o m hj ho
    have := lt_of_some ho
    have h2 : pre.length = ops.size := by rw [← Array.length_toList, hl]; simp
    omega
  | p :: r, pre, hl, h => by
    intro j o m hj ho hm ha h1 h2
    have hp : ops[pre.length]? = some p := by rw [← Array.getElem?_toList, hl]; simp
    have hl' : ops.toList = (pre ++ [p]) ++ r := by rw [hl]; simp
    have hlen : (pre ++ [p]).length = pre.length + 1 := by simp
    have on : stageOk T ops.toList Pl s tmps vals A r (pre.length + 1) = true → pre.length + 1 ≤ j → Fine T ops Pl tmps vals A j m o := by
      intro h' hj'
      rw [← hlen] at h' hj'
      exact stageOk_run r (pre ++ [p]) hl' h' j o m hj' ho hm ha h1 h2
    unfold stageOk at h
    by_cases hji : j = pre.length
    · subst hji
      rw [hp] at ho; cases ho
      rw [ha] at h
      simp only [cond_false, hm] at h
      rw [Nat.ble_eq_true_of_le h1, Nat.ble_eq_true_of_le h2] at h
      simp only [Bool.and_self, cond_true] at h
      split at h
      · cases h
      · rename_i hw
        simp only [Bool.and_eq_true] at h
        refine ⟨false, hw, ?_⟩
        have h' := h.1
        split at h'
        · rename_i u hu
          have := AV.beq_eq h'
          subst this
          exact hu
        · cases h'
      · rename_i hw
        simp only [Bool.and_eq_true] at h
        refine ⟨true, hw, ?_⟩
        have h' := h.1
        cases hmk : makes p.op with
        | true =>
          rw [hmk] at h'
          simp only [cond_true] at h'
          split at h'
          · rename_i u hu
            exact ⟨u, hu, by rw [if_pos rfl]; exact h'⟩
          · cases h'
        | false =>
          rw [hmk] at h'
          simp only [cond_false] at h'
          unfold sameOne at h'
          split at h'
          · rename_i v A₁ u he hu
            have := AV.beq_eq h'
            subst this
            exact ⟨v, hu, by rw [if_neg (by simp)]; exact ⟨A₁, he⟩⟩
          · cases h'
    · have hj' : pre.length + 1 ≤ j := by omega
      cases hap : actsOp p.op with
      | true => rw [hap] at h; exact on h hj'
      | false =>
        rw [hap] at h
        simp only [cond_false] at h
        split at h
        · cases h
        · rename_i m' hm'
          cases hc : Nat.ble (loStage m' Pl.acts) s && Nat.ble s (hiStage Pl.masks pre.length Pl.acts) with
          | false => rw [hc] at h; exact on h hj'
          | true =>
            rw [hc] at h
            simp only [cond_true] at h
            split at h
            · cases h
            · simp only [Bool.and_eq_true] at h; exact on h.2 hj'
            · simp only [Bool.and_eq_true] at h; exact on h.2 hj'
end
end
end Go.Abs
