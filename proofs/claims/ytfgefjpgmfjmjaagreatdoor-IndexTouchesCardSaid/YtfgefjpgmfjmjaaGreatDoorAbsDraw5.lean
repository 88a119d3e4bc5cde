/- Regions that draw their order: one operation, and all up to the next act. -/
import Derived.Test.YtfgefjpgmfjmjaaGreatDoorAbsDraw4
namespace Go.Abs
open Go.RowKit (Below)

section
variable {T : Tabs} {P : Program} {B : Nat} {Q : List Nat} {w₀ w w' : World} {φ ψ : Inj} {A A' : AHeap}

theorem actsFrom_spec {l : List Oper} : ∀ {r pre : List Oper}, l = pre ++ r → ∀ i, i ∈ actsFrom r pre.length → ∃ o, l[i]? = some o ∧ actsOp o.op = true
  | [], pre, hl, i, h => by cases h
  | p :: r, pre, hl, i, h => by
    unfold actsFrom at h
    have hlen : (pre ++ [p]).length = pre.length + 1 := by simp
    have on : i ∈ actsFrom r (pre.length + 1) → ∃ o, l[i]? = some o ∧ actsOp o.op = true := fun h' => by
      rw [← hlen] at h'
      exact actsFrom_spec (r := r) (pre := pre ++ [p]) (by rw [hl]; simp) i h'
    cases ha : actsOp p.op with
    | true =>
      rw [ha] at h
      simp only [cond_true] at h
      rcases List.mem_cons.1 h with rfl | h
      · exact ⟨p, by rw [hl]; simp, ha⟩
      · exact on h
    | false => rw [ha] at h; exact on h

theorem act_is {ops : Array Oper} {Pl : Plan} (h : plan ops = some Pl) {k i : Nat} (hk : nth Pl.acts k = some i) : ∃ o, ops[i]? = some o ∧ actsOp o.op = true := by
  obtain ⟨_, ha, _⟩ := plan_parts h
  rw [nth_eq] at hk
  have hm := List.mem_of_getElem? hk
  rw [ha] at hm
  obtain ⟨o, h1, h2⟩ := actsFrom_spec (l := ops.toList) (r := ops.toList) (pre := []) (by simp) i (by simpa using hm)
  exact ⟨o, by rw [← Array.getElem?_toList]; exact h1, h2⟩
theorem act_of {ops : Array Oper} {Pl : Plan} (h : plan ops = some Pl) {i : Nat} {o : Oper} (ho : ops[i]? = some o) (ha : actsOp o.op = true) : ∃ k, nth Pl.acts k = some i := by
  obtain ⟨_, hp, _⟩ := plan_parts h
  have := actsFrom_mem (l := ops.toList) (r := ops.toList) (pre := []) (by simp) i o (by simp) (by rw [Array.getElem?_toList]; exact ho) ha
  rw [List.length_nil, ← hp] at this
  obtain ⟨k, hk⟩ := List.getElem?_of_mem this
  exact ⟨k, by rw [nth_eq]; exact hk⟩

/-- What is pending does not change where what is listed was none of it. -/
theorem pendOf_list {l : List Oper} {vals : Tree AV} {listed : Array Bool} {i : Nat} {o : Oper} (hi : i < listed.size) (ho : nth l i = some o) (hl : listed.getD i true = false)
    (h : makes o.op = false ∨ (vals.get i).bind blockOf = none) : pendOf l vals (listed.setIfInBounds i true) = pendOf l vals listed := by
  unfold pendOf
  apply filterMap_same
  intro j _
  by_cases hj : j = i
  · subst hj
    rw [pendAt_listed (by rw [getD_set hi, if_pos rfl]), pendAt_of ho hl]
    rcases h with h | h
    · rw [h]; rfl
    · rw [h]; simp
  · unfold pendAt; rw [getD_set hi, if_neg hj]
theorem pendOf_born {l : List Oper} {vals : Tree AV} {listed : Array Bool} {i b : Nat} {o : Oper} (hi : i < listed.size) (ho : nth l i = some o) (hl : listed.getD i true = false) (hm : makes o.op = true) {u : AV} (hu : vals.get i = some u) (hb : blockOf u = some b) :
    (pendOf l vals listed).Perm (b :: pendOf l vals (listed.setIfInBounds i true)) := by
  unfold pendOf
  have hil : i < l.length := by
    rw [nth_eq] at ho
    rcases Nat.lt_or_ge i l.length with h | h
    · exact h
    · rw [List.getElem?_eq_none h] at ho; cases ho
  refine filterMap_perm (g := pendAt l vals (listed.setIfInBounds i true)) List.nodup_range (List.mem_range.2 hil) (fun j _ hj => ?_) (pendAt_listed (by rw [getD_set hi, if_pos rfl])) ?_
  · unfold pendAt; rw [getD_set hi, if_neg hj]
  · rw [pendAt_of ho hl, hm, hu]; exact hb

section
variable {q : List Nat} {nt s : Nat} {ops : Array Oper} {Pl : Plan} {vals tmps : Tree AV} {tmps' : Array Value} {listed : Array Bool}
variable {fn : FuncId} {k : List Item} {defers : List Deferred} {kind : CallKind} {ro : Option Nat} {cs : List Frame}

theorem draw_one (H : T.Ok P) (G : GlobOk T φ) (D : Draw φ q nt ops Pl s (s + 1) vals tmps tmps' listed) (R : Rel B w₀ (q ++ Q) φ A w) (hnd : (q ++ Q).Nodup) (hn : tmps'.size = nt) {i m : Nat} {o : Oper}
    (ho : ops[i]? = some o) (hl : listed.getD i true = false) (hpre : ∀ e ∈ o.after.toList, binding e = true → listed.getD e.on false = true) (ha : actsOp o.op = false) (hm : nth Pl.masks i = some m)
    (hlo : loStage m Pl.acts ≤ s) (fine : Fine T ops Pl tmps vals A i m o) (is : List Nat) :
    ∃ φ' q' tmps'' w', φ.le φ' ∧ Draw φ' q' nt ops Pl s (s + 1) vals tmps tmps'' (listed.setIfInBounds i true) ∧ Rel B w₀ (q' ++ Q) φ' A w' ∧ (q' ++ Q).Nodup ∧ tmps''.size = nt ∧
      Go.step P (lone ⟨fn, tmps', .inRegion ops (i :: is) :: k, defers, .run, kind, ro⟩ cs w) = .next (lone ⟨fn, tmps'', .inRegion ops is :: k, defers, .run, kind, ro⟩ cs w') := by
  have hlt := lt_of_some ho
  have hli : i < listed.size := by rw [D.size]; exact hlt
  have hlf : listed.getD i false = false := by rw [← getD_flip hli]; exact hl
  have hmask : ∀ j, bit m j = true → listed.getD j false = true := mask_down D.plan D.size D.down i o m ho hm hpre
  have hno : nth ops.toList i = some o := by rw [nth_array]; exact ho
  have hacts : ∀ k x, nth Pl.acts k = some x → ((x = i ∨ listed.getD x true = true) ↔ k < s) := by
    intro k x hx
    rw [← D.acts k x hx]
    constructor
    · rintro (rfl | h)
      · obtain ⟨o', ho', ha'⟩ := act_is D.plan hx
        rw [ho] at ho'; cases ho'
        rw [ha] at ha'; cases ha'
      · exact h
    · exact .inr
  have put_size : ∀ v, (match o.dst with | some d => tmps'.setIfInBounds d v | none => tmps').size = nt := by
    intro v; cases o.dst <;> simp [hn]
  obtain ⟨b, hw, hb⟩ := fine
  have hwant := wantedD_rel D hmask hw
  cases b with
  | false =>
    simp only at hb
    refine ⟨φ, q, _, w, φ.le_refl, D.next hn φ.le_refl ho hlf hpre (undef_rel φ) (fun _ _ => rfl) hb hacts D.le (fun m' hm' _ => by rw [hm] at hm'; cases hm'; omega) rfl ?_, R, hnd, put_size undef, ?_⟩
    · rw [pendOf_list hli hno hl (.inr (by rw [hb]; rfl))]; exact D.pend
    · rw [step_unwanted ho hwant, finish_op ho]; rfl
  | true =>
    simp only at hb
    obtain ⟨u, hu, hb⟩ := hb
    have hρ := drawEval_rel (T := T) G D hlf hmask (fr := ⟨fn, tmps', .inRegion ops (i :: is) :: k, defers, .run, kind, ro⟩) rfl
    have hnd' : ∀ c, o.op ≠ .defer c := by rintro c h; rw [h] at ha; cases ha
    cases hmk : makes o.op with
    | true =>
      rw [hmk, if_pos rfl] at hb
      unfold untouched at hb
      split at hb
      · rename_i e cls sl b hmd hbl
        simp only [Bool.and_eq_true] at hb
        obtain ⟨hb1, hb2⟩ := hb
        have hue := AV.beq_eq hb1
        split at hb2
        · rename_i c lo hi cells e' hg
          simp only [Bool.and_eq_true] at hb2
          obtain ⟨⟨⟨h1, h2⟩, h3⟩, h4⟩ := hb2
          obtain rfl := Nat.eq_of_beq_eq_true h1
          obtain rfl := Nat.eq_of_beq_eq_true h2
          obtain rfl := Nat.eq_of_beq_eq_true h3
          split at h4
          · rename_i l' hl'
            have hll := AV.beqL_eq h4
            subst hll
            have hperm := pendOf_born hli hno hl hmk hu hbl
            have hq := D.pend.trans hperm
            have hp2 : (q ++ Q).Perm (b :: (pendOf ops.toList vals (listed.setIfInBounds i true) ++ Q)) := hq.append_right Q
            have hnd2 := hp2.nodup_iff.1 hnd
            obtain ⟨hbn, hnd3⟩ := List.nodup_cons.1 hnd2
            obtain ⟨hsl, cs', hcr, hrun⟩ := made_run H hρ hmd w
            have R2 : Rel B w₀ (b :: (pendOf ops.toList vals (listed.setIfInBounds i true) ++ Q)) φ A w := R.lessQ fun x hx => hp2.mem_iff.2 hx
            obtain ⟨hle, R3⟩ := Rel.born hbn R2 hg hl' hcr
            have hv := madeVal_rel (φ := φ) (w := w) (b := b) (n := cs'.size) sl hsl
            rw [← hue] at hv
            refine ⟨_, _, _, _, hle, D.next hn hle ho hlf hpre hv (fun _ _ => rfl) hu hacts D.le (fun m' hm' _ => by rw [hm] at hm'; cases hm'; omega) rfl (List.Perm.refl _), R3, hnd3, put_size _, ?_⟩
            rw [step_val ho hwant (.inr hnd') hrun, finish_op ho]; rfl
          · cases h4
        · cases hb2
      · cases hb
    | false =>
      rw [hmk, if_neg (by simp)] at hb
      obtain ⟨A₁, he⟩ := hb
      have hsame := exec_same ha hmk he
      subst hsame
      have hout := exec_run H R hρ (o := o) he
      obtain ⟨φ', v', w', g1, g2, g3, g4⟩ := hout
      refine ⟨φ', q, _, w', g2, D.next hn g2 ho hlf hpre g4 (fun _ _ => rfl) hu hacts D.le (fun m' hm' _ => by rw [hm] at hm'; cases hm'; omega) rfl ?_, g3, hnd, put_size _, ?_⟩
      · rw [pendOf_list hli hno hl (.inl hmk)]; exact D.pend
      · rw [step_val ho hwant (.inr hnd') g1, finish_op ho]; rfl

/-- Up to the next act, or to the end. -/
theorem draw_loop (H : T.Ok P) (hchk : ∀ j o m, ops[j]? = some o → nth Pl.masks j = some m → actsOp o.op = false → loStage m Pl.acts ≤ s → s ≤ hiStage Pl.masks j Pl.acts → Fine T ops Pl tmps vals A j m o) :
    ∀ (fuel : Nat) {t : Nat} {listed : Array Bool} {φ : Inj} {q : List Nat} {tmps' : Array Value} {w : World}, GlobOk T φ → Draw φ q nt ops Pl s (s + 1) vals tmps tmps' listed → (unlisted ops.size listed).length ≤ fuel →
      Rel B w₀ (q ++ Q) φ A w → (q ++ Q).Nodup → tmps'.size = nt →
      ∃ φ' q' tmps'' w' fuel' t' listed', φ.le φ' ∧ Draw φ' q' nt ops Pl s (s + 1) vals tmps tmps'' listed' ∧ (unlisted ops.size listed').length ≤ fuel' ∧ Rel B w₀ (q' ++ Q) φ' A w' ∧ (q' ++ Q).Nodup ∧ tmps''.size = nt ∧
        Steps P (lone ⟨fn, tmps', .inRegion ops (Region.linearise.go .any ops fuel t listed []) :: k, defers, .run, kind, ro⟩ cs w)
          (lone ⟨fn, tmps'', .inRegion ops (Region.linearise.go .any ops fuel' t' listed' []) :: k, defers, .run, kind, ro⟩ cs w') ∧
        ((Region.linearise.go .any ops fuel' t' listed' [] = [] ∧ ∀ i, i < ops.size → listed'.getD i true = true) ∨
          ∃ i o r, Region.linearise.go .any ops fuel' t' listed' [] = i :: r ∧ nth Pl.acts s = some i ∧ ops[i]? = some o ∧ listed'.getD i true = false ∧ ∀ e ∈ o.after.toList, binding e = true → listed'.getD e.on false = true) := by
  intro fuel
  induction fuel with
  | zero =>
    intro t listed φ q tmps' w G D hf R hnd hn
    obtain ⟨_, _, _, hed, _⟩ := plan_parts D.plan
    exact ⟨φ, q, tmps', w, 0, t, listed, φ.le_refl, D, hf, R, hnd, hn, Steps.refl _ _, .inl ⟨rfl, all_listed D.size hed hf (.inl rfl)⟩⟩
  | succ fuel ih =>
    intro t listed φ q tmps' w G D hf R hnd hn
    obtain ⟨_, _, hrow, hed, _⟩ := plan_parts D.plan
    rcases go_cases ops (fuel + 1) t listed with ⟨h1, h2⟩ | ⟨i, fuel', t', h1, h2, h3⟩
    · exact ⟨φ, q, tmps', w, fuel + 1, t, listed, φ.le_refl, D, hf, R, hnd, hn, Steps.refl _ _, .inl ⟨h1, all_listed D.size hed hf h2⟩⟩
    · cases h1
      obtain ⟨o, ho, hl, hpre⟩ := ready_mem h2
      have hlt := lt_of_some ho
      have hli : i < listed.size := by rw [D.size]; exact hlt
      obtain ⟨m, hm, _⟩ := plan_mask D.plan ho
      have hmask : ∀ j, bit m j = true → listed.getD j false = true := mask_down D.plan D.size D.down i o m ho hm hpre
      cases ha : actsOp o.op with
      | true =>
        obtain ⟨x, hx⟩ := act_of D.plan ho ha
        have hxs : s ≤ x := by
          rcases Nat.lt_or_ge x s with h | h
          · have := (D.acts x i hx).2 h
            rw [hl] at this; cases this
          · exact h
        have hxe : x = s := by
          rcases Nat.lt_or_ge s x with h | h
          · obtain ⟨y, rfl⟩ : ∃ y, x = y + 1 := ⟨x - 1, by omega⟩
            have hy : ∃ a, nth Pl.acts y = some a := by
              rw [nth_eq] at hx
              have : y + 1 < Pl.acts.length := by
                rcases Nat.lt_or_ge (y + 1) Pl.acts.length with h | h
                · exact h
                · rw [List.getElem?_eq_none h] at hx; cases hx
              exact ⟨Pl.acts[y], by rw [nth_eq, List.getElem?_eq_getElem (by omega)]⟩
            obtain ⟨a, hya⟩ := hy
            obtain ⟨m', hm', hb'⟩ := inRow_prev hrow y a i hya hx
            rw [hm] at hm'; cases hm'
            have hla := hmask a hb'
            have hla' : listed.getD a true = true := by rw [getD_flip (lt_of_getD hla)]; exact hla
            have := (D.acts y a hya).1 hla'
            omega
          · omega
        subst hxe
        exact ⟨φ, q, tmps', w, fuel + 1, t, listed, φ.le_refl, D, hf, R, hnd, hn, Steps.refl _ _, .inr ⟨i, o, _, h3, hx, ho, hl, hpre⟩⟩
      | false =>
        have hlo : loStage m Pl.acts ≤ s := lo_le fun a has => by
          cases hb : bit m a with
          | false => rfl
          | true =>
            have hla := hmask a hb
            have hla' : listed.getD a true = true := by rw [getD_flip (lt_of_getD hla)]; exact hla
            have := (D.acts s a has).1 hla'
            omega
        have hhi : s ≤ hiStage Pl.masks i Pl.acts := hi_ge D.le fun y a hy hya => by
          obtain ⟨oa, hoa, _⟩ := act_is D.plan hya
          obtain ⟨ma, hma, _⟩ := plan_mask D.plan hoa
          refine ⟨ma, hma, ?_⟩
          cases hb : bit ma i with
          | false => rfl
          | true =>
            have hla := (D.acts y a hya).2 hy
            have := mask_down D.plan D.size D.down a oa ma hoa hma (D.down a oa hoa hla) i hb
            rw [← getD_flip hli, hl] at this; cases this
        obtain ⟨φ', q', tmps'', w', g1, g2, g3, g4, g5, g6⟩ := draw_one (fn := fn) (k := k) (defers := defers) (kind := kind) (ro := ro) (cs := cs) H G D R hnd hn ho hl hpre ha hm hlo (hchk i o m ho hm ha hlo hhi) (Region.linearise.go .any ops fuel t' (listed.setIfInBounds i true) [])
        have hf' : (unlisted ops.size (listed.setIfInBounds i true)).length ≤ fuel := by
          have := unlisted_lt hlt D.size hl
          omega
        obtain ⟨φ₂, q₂, tmps₂, w₂, fuel₂, t₂, listed₂, k1, k2, k3, k4, k5, k6, k7, k8⟩ := ih (G.mono g1) g2 hf' g3 g4 g5 (t := t')
        refine ⟨φ₂, q₂, tmps₂, w₂, fuel₂, t₂, listed₂, Inj.le_trans g1 k1, k2, k3, k4, k5, k6, ?_, k8⟩
        rw [h3]
        exact Steps.head g6 k7
end
end
end Go.Abs
