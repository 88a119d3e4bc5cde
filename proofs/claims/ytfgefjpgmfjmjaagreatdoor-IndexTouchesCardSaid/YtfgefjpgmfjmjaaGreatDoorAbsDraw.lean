/- Regions that draw their order. -/
import Derived.Test.YtfgefjpgmfjmjaaGreatDoorAbsReg
namespace Go.Abs
open Go.RowKit (Below)

section
variable {T : Tabs} {P : Program} {B : Nat} {Q : List Nat} {w₀ w w' : World} {φ ψ : Inj} {A A' : AHeap}

/-! Bits -/

theorem bit_eq (m i : Nat) : bit m i = m.testBit i := by
  unfold bit
  rw [Nat.testBit_eq_decide_div_mod_eq]
  cases h : Nat.beq (m / 2 ^ i % 2) 1 with
  | true => have := Nat.eq_of_beq_eq_true h; simp [this]
  | false =>
    have : ¬ m / 2 ^ i % 2 = 1 := fun e => by rw [e] at h; cases h
    simp [this]
theorem bit_or (a b i : Nat) : bit (a ||| b) i = (bit a i || bit b i) := by simp only [bit_eq, Nat.testBit_or]
theorem bit_pow (a i : Nat) : bit (2 ^ a) i = decide (a = i) := by rw [bit_eq, Nat.testBit_two_pow]
theorem bit_zero (i : Nat) : bit 0 i = false := by rw [bit_eq, Nat.zero_testBit]

/-! Who stands ahead of whom -/

theorem aheadOf_bit {acc : List Nat} {j : Nat} : ∀ {l : List Edge}, bit (aheadOf acc l) j = true → ∃ e ∈ l, binding e = true ∧ ∃ m, nth acc e.on = some m ∧ (e.on = j ∨ bit m j = true)
  | [], h => by simp only [aheadOf, bit_zero] at h; cases h
  | e :: r, h => by
    unfold aheadOf at h
    cases hb : binding e with
    | false =>
      rw [hb] at h
      obtain ⟨e', h1, h2⟩ := aheadOf_bit (l := r) h
      exact ⟨e', List.mem_cons_of_mem _ h1, h2⟩
    | true =>
      rw [hb] at h
      simp only [cond_true] at h
      cases hm : nth acc e.on with
      | none =>
        rw [hm] at h
        obtain ⟨e', h1, h2⟩ := aheadOf_bit (l := r) h
        exact ⟨e', List.mem_cons_of_mem _ h1, h2⟩
      | some m =>
        rw [hm] at h
        simp only [bit_or, bit_pow, Bool.or_eq_true, decide_eq_true_eq] at h
        rcases h with (h | h) | h
        · exact ⟨e, by simp, hb, m, hm, .inl h⟩
        · exact ⟨e, by simp, hb, m, hm, .inr h⟩
        · obtain ⟨e', h1, h2⟩ := aheadOf_bit (l := r) h
          exact ⟨e', List.mem_cons_of_mem _ h1, h2⟩

theorem masks_cons (o : Oper) (r : List Oper) (acc : List Nat) : masks (o :: r) acc = masks r (acc ++ [aheadOf acc o.after.toList]) := rfl
theorem masks_prefix : ∀ (l : List Oper) (acc : List Nat), ∃ r, masks l acc = acc ++ r ∧ r.length = l.length
  | [], acc => ⟨[], by simp [masks], rfl⟩
  | o :: l, acc => by
    obtain ⟨r, h1, h2⟩ := masks_prefix l (acc ++ [aheadOf acc o.after.toList])
    exact ⟨aheadOf acc o.after.toList :: r, by rw [masks_cons, h1]; simp, by simp [h2]⟩
theorem masks_get : ∀ (l : List Oper) (acc : List Nat) (i : Nat) (o : Oper), l[i]? = some o → (masks l acc)[acc.length + i]? = some (aheadOf ((masks l acc).take (acc.length + i)) o.after.toList)
  | [], acc, i, o, h => by simp at h
  | p :: l, acc, 0, o, h => by
    have hp : p = o := by simpa using h
    subst hp
    obtain ⟨r, h1, h2⟩ := masks_prefix l (acc ++ [aheadOf acc p.after.toList])
    rw [masks_cons, h1]
    simp
  | p :: l, acc, i + 1, o, h => by
    have := masks_get l (acc ++ [aheadOf acc p.after.toList]) i o (by simpa using h)
    rw [List.length_append, List.length_singleton, Nat.add_assoc, Nat.add_comm 1 i] at this
    rw [masks_cons]; exact this

theorem plan_parts {ops : Array Oper} {Pl : Plan} (h : plan ops = some Pl) : Pl.masks = masks ops.toList [] ∧ Pl.acts = actsFrom ops.toList 0 ∧ inRow Pl.masks Pl.acts = true ∧ edgesOk ops.toList 0 = true ∧ dstsOk [] ops.toList = true := by
  unfold plan at h
  simp only at h
  cases hb : inRow (masks ops.toList []) (actsFrom ops.toList 0) && edgesOk ops.toList 0 && dstsOk [] ops.toList with
  | false => rw [hb] at h; cases h
  | true =>
    rw [hb] at h
    cases h
    simp only [Bool.and_eq_true] at hb
    exact ⟨rfl, rfl, hb.1.1, hb.1.2, hb.2⟩

theorem plan_mask {ops : Array Oper} {Pl : Plan} (h : plan ops = some Pl) {i : Nat} {o : Oper} (ho : ops[i]? = some o) : ∃ m, nth Pl.masks i = some m ∧ m = aheadOf (Pl.masks.take i) o.after.toList := by
  obtain ⟨h1, _⟩ := plan_parts h
  have := masks_get ops.toList [] i o (by rw [Array.getElem?_toList]; exact ho)
  rw [List.length_nil, Nat.zero_add] at this
  exact ⟨_, by rw [nth_eq, h1]; exact this, by rw [h1]⟩

/-- What stands ahead is listed, where what stands ahead at once is. -/
theorem mask_down {ops : Array Oper} {Pl : Plan} (hp : plan ops = some Pl) {listed : Array Bool} (hs : listed.size = ops.size)
    (hd : ∀ i o, ops[i]? = some o → listed.getD i true = true → ∀ e ∈ o.after.toList, binding e = true → listed.getD e.on false = true) :
    ∀ (i : Nat) (o : Oper) (m : Nat), ops[i]? = some o → nth Pl.masks i = some m → (∀ e ∈ o.after.toList, binding e = true → listed.getD e.on false = true) → ∀ j, bit m j = true → listed.getD j false = true := by
  intro i
  induction i using Nat.strongRecOn with
  | _ i ih =>
    intro o m ho hm he j hj
    obtain ⟨m', hm', e'⟩ := plan_mask hp ho
    rw [hm] at hm'; cases hm'
    rw [e'] at hj
    obtain ⟨e, he1, he2, n, hn, hor⟩ := aheadOf_bit hj
    have hl := he e he1 he2
    rcases hor with h | h
    · rw [← h]; exact hl
    · have hlt : e.on < i := by
        rw [nth_eq] at hn
        rcases Nat.lt_or_ge e.on i with h | h
        · exact h
        · rw [List.getElem?_eq_none (by rw [List.length_take]; omega)] at hn; cases hn
      have hn' : nth Pl.masks e.on = some n := by
        rw [nth_eq] at hn ⊢
        rw [List.getElem?_take_of_lt hlt] at hn; exact hn
      have hsz : e.on < ops.size := by
        rcases Nat.lt_or_ge e.on ops.size with h | h
        · exact h
        · rw [Array.getD_eq_getD_getElem?, Array.getElem?_eq_none (by omega)] at hl; cases hl
      have hl' : listed.getD e.on true = true := by
        rw [Array.getD_eq_getD_getElem?] at hl ⊢
        rw [Array.getElem?_eq_getElem (by omega)] at hl ⊢
        exact hl
      exact ih e.on hlt ops[e.on] n (Array.getElem?_eq_getElem hsz) hn' (hd e.on _ (Array.getElem?_eq_getElem hsz) hl') j h

theorem writerOf_some {t : Nat} : ∀ {l : List Oper} {i j : Nat}, writerOf t l i = some j → i ≤ j ∧ ∃ p, l[j - i]? = some p ∧ p.dst = some t
  | [], i, j, h => by cases h
  | o :: r, i, j, h => by
    unfold writerOf at h
    have step : writerOf t r (i + 1) = some j → i ≤ j ∧ ∃ p, (o :: r)[j - i]? = some p ∧ p.dst = some t := by
      intro h
      obtain ⟨h1, p, h2, h3⟩ := writerOf_some h
      exact ⟨by omega, p, by rw [show j - i = (j - (i + 1)) + 1 by omega]; simpa using h2, h3⟩
    split at h
    · rename_i d hd
      cases hb : Nat.beq d t with
      | true =>
        rw [hb] at h
        have := Nat.eq_of_beq_eq_true hb
        subst this
        cases h
        exact ⟨Nat.le_refl _, o, by simp, hd⟩
      | false => rw [hb] at h; exact step h
    · exact step h
theorem writerOf_none {t : Nat} : ∀ {l : List Oper} {i : Nat}, writerOf t l i = none → ∀ p ∈ l, p.dst ≠ some t
  | [], i, h => by intro p hp; cases hp
  | o :: r, i, h => by
    unfold writerOf at h
    intro p hp
    split at h
    · rename_i d hd
      cases hb : Nat.beq d t with
      | true => rw [hb] at h; cases h
      | false =>
        rw [hb] at h
        rcases List.mem_cons.1 hp with rfl | hp
        · rw [hd]; intro e; cases e; rw [Nat.beq_refl] at hb; cases hb
        · exact writerOf_none h p hp
    · rename_i hd
      rcases List.mem_cons.1 hp with rfl | hp
      · rw [hd]; intro e; cases e
      · exact writerOf_none h p hp

theorem dstsOk_seen {d : Nat} : ∀ {l : List Oper} {seen : List Nat}, dstsOk seen l = true → d ∈ seen → ∀ p ∈ l, p.dst ≠ some d
  | [], _, _, _ => by intro p hp; cases hp
  | o :: r, seen, h, hm => by
    unfold dstsOk at h
    intro p hp e
    split at h
    · rename_i d' hd
      simp only [Bool.and_eq_true, Bool.not_eq_true'] at h
      rcases List.mem_cons.1 hp with rfl | hp
      · rw [hd] at e; cases e
        have : seen.any (Nat.beq d) = true := List.any_eq_true.2 ⟨d, hm, Nat.beq_refl d⟩
        rw [h.1] at this; cases this
      · exact dstsOk_seen h.2 (List.mem_cons_of_mem _ hm) p hp e
    · rename_i hd
      rcases List.mem_cons.1 hp with rfl | hp
      · rw [hd] at e; cases e
      · exact dstsOk_seen h hm p hp e
theorem dstsOk_inj {d : Nat} : ∀ {l : List Oper} {seen : List Nat}, dstsOk seen l = true → ∀ (i j : Nat) (p q : Oper), l[i]? = some p → l[j]? = some q → p.dst = some d → q.dst = some d → i = j
  | [], _, _ => by intro i j p q hp; simp at hp
  | o :: r, seen, h => by
    unfold dstsOk at h
    have tail : ∃ seen', dstsOk seen' r = true ∧ ∀ d', o.dst = some d' → d' ∈ seen' := by
      split at h
      · rename_i d' hd
        simp only [Bool.and_eq_true] at h
        exact ⟨_, h.2, fun x hx => by rw [hd] at hx; cases hx; simp⟩
      · rename_i hd
        exact ⟨_, h, fun x hx => by rw [hd] at hx; cases hx⟩
    obtain ⟨seen', h1, h2⟩ := tail
    intro i j p q hp hq hpd hqd
    cases i with
    | zero =>
      have hop : o = p := by simpa using hp
      subst hop
      cases j with
      | zero => rfl
      | succ j => exact absurd hqd (dstsOk_seen h1 (h2 _ hpd) q (List.mem_of_getElem? (by simpa using hq)))
    | succ i =>
      cases j with
      | zero =>
        have hoq : o = q := by simpa using hq
        subst hoq
        exact absurd hpd (dstsOk_seen h1 (h2 _ hqd) p (List.mem_of_getElem? (by simpa using hp)))
      | succ j => rw [dstsOk_inj h1 i j p q (by simpa using hp) (by simpa using hq) hpd hqd]

theorem getD_flip {listed : Array Bool} {i : Nat} (h : i < listed.size) : listed.getD i true = listed.getD i false := by
  simp only [Array.getD_eq_getD_getElem?]
  rw [Array.getElem?_eq_getElem h]; rfl
theorem lt_of_getD {listed : Array Bool} {i : Nat} (h : listed.getD i false = true) : i < listed.size := by
  rcases Nat.lt_or_ge i listed.size with h' | h'
  · exact h'
  · rw [Array.getD_eq_getD_getElem?, Array.getElem?_eq_none h'] at h; cases h
theorem lt_of_some {ops : Array Oper} {i : Nat} {o : Oper} (h : ops[i]? = some o) : i < ops.size := by
  rcases Nat.lt_or_ge i ops.size with h' | h'
  · exact h'
  · rw [Array.getElem?_eq_none h'] at h; cases h

section
variable {q : List Nat} {nt s c : Nat} {ops : Array Oper} {Pl : Plan} {vals tmps : Tree AV} {tmps' : Array Value} {listed : Array Bool}

theorem Draw.done' (D : Draw φ q nt ops Pl s c vals tmps tmps' listed) {j : Nat} (h : listed.getD j false = true) : ∃ o a, ops[j]? = some o ∧ vals.get j = some a ∧ ∀ d, o.dst = some d → VRel φ a (tmps'.getD d undef) := by
  have hlt := lt_of_getD h
  have hlt' : j < ops.size := by rw [← D.size]; exact hlt
  obtain ⟨a, ha, hd⟩ := D.done j _ (Array.getElem?_eq_getElem hlt') (by rw [getD_flip hlt]; exact h)
  exact ⟨_, a, Array.getElem?_eq_getElem hlt', ha, hd⟩

theorem wantedD_rel (D : Draw φ q nt ops Pl s c vals tmps tmps' listed) {o : Oper} {m : Nat} (hm : ∀ j, bit m j = true → listed.getD j false = true) {b : Bool} (h : wantedD ops.toList m vals o = some b) :
    Region.wanted o (yielded ops tmps') = b := by
  unfold wantedD at h
  unfold Region.wanted
  split at h
  · rename_i hg
    cases h; rw [hg]
  · rename_i j want hg
    rw [hg]
    show (yielded ops tmps' j == some want) = b
    split at h
    · rename_i d hd
      cases hb : bit m j with
      | false => rw [hb] at h; cases h
      | true =>
        rw [hb] at h
        simp only [cond_true] at h
        obtain ⟨p, a, hp, ha, hpd⟩ := D.done' (hm j hb)
        have hpd' : p.dst = some d := by
          unfold dstAt at hd
          rw [nth_array, hp] at hd; exact hd
        rw [ha] at h
        rcases wantedBy_rel h (hpd d hpd') with ⟨c, hv, hbb⟩ | ⟨hn, rfl⟩
        · rw [yielded_of hp hpd' hv, ← hbb]
          cases c <;> cases want <;> rfl
        · rw [yielded_not hp hpd' hn]; rfl
    · cases h

theorem drawEval_rel (G : GlobOk T φ) (D : Draw φ q nt ops Pl s c vals tmps tmps' listed) {i m : Nat} (hi : listed.getD i false = false) (hm : ∀ j, bit m j = true → listed.getD j false = true) {fr : Frame} (hfr : fr.tmps = tmps') :
    ∀ x v, drawEval T ops.toList Pl.masks i m tmps vals x = some v → VRel φ v (fr.eval x) := by
  intro x v hx
  obtain ⟨_, _, _, _, hdi⟩ := plan_parts D.plan
  have oldT : ∀ t, (∀ i o, ops[i]? = some o → o.dst = some t → listed.getD i true = false) → VRel φ (getTmp tmps t) (fr.eval (.tmp t)) := by
    intro t ht
    have := D.old t ht
    rw [← hfr] at this; exact this
  cases x with
  | tmp t =>
    unfold drawEval at hx
    simp only at hx
    split at hx
    · rename_i j hj
      obtain ⟨_, p, hp, hpd⟩ := writerOf_some hj
      rw [Nat.sub_zero, Array.getElem?_toList] at hp
      cases hb : bit m j with
      | true =>
        rw [hb] at hx
        simp only [cond_true] at hx
        obtain ⟨p', a, hp', ha, hd⟩ := D.done' (hm j hb)
        rw [hp] at hp'; cases hp'
        rw [ha] at hx; cases hx
        have := hd t hpd
        rw [← hfr] at this; exact this
      | false =>
        rw [hb] at hx
        simp only [cond_false] at hx
        split at hx
        · rename_i n hn
          cases hbn : bit n i with
          | false => rw [hbn] at hx; cases hx
          | true =>
            rw [hbn] at hx
            cases hx
            refine oldT t fun i' o' hi' hd' => ?_
            have : i' = j := dstsOk_inj hdi i' j o' p (by rw [Array.getElem?_toList]; exact hi') (by rw [Array.getElem?_toList]; exact hp) hd' hpd
            subst this
            cases hl : listed.getD i' true with
            | false => rfl
            | true =>
              have := mask_down D.plan D.size D.down i' p n hp hn (D.down i' p hp hl) i hbn
              rw [this] at hi; cases hi
        · cases hx
    · rename_i hw
      cases hx
      refine oldT t fun i' o' hi' hd' => ?_
      exact absurd hd' (writerOf_none hw o' (List.mem_of_getElem? (by rw [Array.getElem?_toList]; exact hi')))
  | const c => exact toAV_rel c v hx
  | global g =>
    exact evalIn_rel (T := T) (prev := []) (vals := []) (tmps := .leaf) (fr := { fr with tmps := #[] }) G (fun t => ⟨.any, rfl, by simp only [VRel]⟩) (.global g) v hx
  | func f =>
    exact evalIn_rel (T := T) (prev := []) (vals := []) (tmps := .leaf) (fr := { fr with tmps := #[] }) G (fun t => ⟨.any, rfl, by simp only [VRel]⟩) (.func f) v hx

theorem dst_lt {nt : Nat} {o : Oper} {d : Nat} (hd : o.dst = some d) : ∀ {l : List Oper}, dstsIn nt l = true → o ∈ l → d < nt
  | [], _, hm => by cases hm
  | p :: l, hl, hm => by
    simp only [dstsIn, Bool.and_eq_true] at hl
    rcases List.mem_cons.1 hm with rfl | hm
    · have := hl.1
      rw [hd] at this
      simpa using this
    · exact dst_lt hd hl.2 hm

theorem getD_set {listed : Array Bool} {i : Nat} (hi : i < listed.size) (j : Nat) (b : Bool) : (listed.setIfInBounds i true).getD j b = if j = i then true else listed.getD j b := by
  by_cases h : j = i
  · subst h; rw [if_pos rfl]; simp [Array.getD_eq_getD_getElem?, hi]
  · rw [if_neg h]
    simp only [Array.getD_eq_getD_getElem?]
    rw [Array.getElem?_setIfInBounds_ne (Ne.symm h)]

/-- One more of the operations is done. -/
theorem Draw.next (D : Draw φ q nt ops Pl s c vals tmps tmps' listed) (hn : tmps'.size = nt) (hle : φ.le ψ) {i : Nat} {o : Oper} (ho : ops[i]? = some o) (hi : listed.getD i false = false)
    (hpre : ∀ e ∈ o.after.toList, binding e = true → listed.getD e.on false = true) {a : AV} {v : Value} (hv : VRel ψ a v) {s' c' : Nat} {vals' : Tree AV} {q' : List Nat}
    (hsame : ∀ j, j ≠ i → vals'.get j = vals.get j) (hnew : vals'.get i = some a)
    (hacts : ∀ k x, nth Pl.acts k = some x → ((x = i ∨ listed.getD x true = true) ↔ k < s')) (hsl : s' ≤ Pl.acts.length)
    (htold : ∀ m, nth Pl.masks i = some m → actsOp o.op = false → loStage m Pl.acts < c) (hc : c' = c)
    (hq : q'.Perm (pendOf ops.toList vals' (listed.setIfInBounds i true))) :
    Draw ψ q' nt ops Pl s' c' vals' tmps (match o.dst with | some d => tmps'.setIfInBounds d v | none => tmps') (listed.setIfInBounds i true) := by
  have hlt := lt_of_some ho
  have hli : i < listed.size := by rw [D.size]; exact hlt
  obtain ⟨_, _, _, _, hdi⟩ := plan_parts D.plan
  have tget : ∀ t, (∀ d, o.dst = some d → t ≠ d) → (match o.dst with | some d => tmps'.setIfInBounds d v | none => tmps').getD t undef = tmps'.getD t undef := by
    intro t ht
    cases hd : o.dst with
    | none => rfl
    | some d =>
      have := dst_lt hd D.dsts (List.mem_of_getElem? (by rw [Array.getElem?_toList]; exact ho))
      show (tmps'.setIfInBounds d v).getD t undef = _
      rw [getD_setIfInBounds _ _ _ _ (by rw [hn]; exact this), if_neg (ht d hd)]
  subst hc
  refine ⟨D.plan, by rw [Array.size_setIfInBounds]; exact D.size, ?_, ?_, hsl, ?_, ?_, ?_, ?_, hq, D.dsts⟩
  · intro j p hp hl e he hb
    rw [getD_set hli]
    split
    · rfl
    · by_cases hj : j = i
      · subst hj
        rw [ho] at hp; cases hp
        exact hpre e he hb
      · rw [getD_set hli, if_neg hj] at hl
        exact D.down j p hp hl e he hb
  · intro k x hx
    rw [← hacts k x hx, getD_set hli]
    by_cases h : x = i
    · subst h; simp
    · rw [if_neg h]; simp [h]
  · intro j p m hp hm ha hlo
    by_cases hj : j = i
    · subst hj; rw [hnew]; rfl
    · rw [hsame j hj]; exact D.told j p m hp hm ha hlo
  · intro j p m hp hm ha hlo
    by_cases hj : j = i
    · subst hj
      rw [ho] at hp; cases hp
      have := htold m hm ha
      omega
    · rw [hsame j hj]; exact D.untold j p m hp hm ha hlo
  · intro j p hp hl
    by_cases hj : j = i
    · subst hj
      rw [ho] at hp; cases hp
      refine ⟨a, hnew, fun d hd => ?_⟩
      rw [hd]
      have := dst_lt hd D.dsts (List.mem_of_getElem? (by rw [Array.getElem?_toList]; exact ho))
      show VRel ψ a ((tmps'.setIfInBounds d v).getD d undef)
      rw [getD_setIfInBounds _ _ _ _ (by rw [hn]; exact this), if_pos rfl]
      exact hv
    · rw [getD_set hli, if_neg hj] at hl
      obtain ⟨b, hb, hbd⟩ := D.done j p hp hl
      refine ⟨b, by rw [hsame j hj]; exact hb, fun d hd => ?_⟩
      rw [tget d (fun d' hd' he => hj (by
        subst he
        exact dstsOk_inj hdi j i p o (by rw [Array.getElem?_toList]; exact hp) (by rw [Array.getElem?_toList]; exact ho) hd hd'))]
      exact (hbd d hd).mono hle
  · intro t ht
    have hti : ∀ d, o.dst = some d → t ≠ d := by
      intro d hd he
      subst he
      have := ht i o ho hd
      rw [getD_set hli, if_pos rfl] at this
      cases this
    rw [tget t hti]
    refine (D.old t fun j p hp hd => ?_).mono hle
    have := ht j p hp hd
    by_cases hj : j = i
    · subst hj
      rw [getD_flip hli]; exact hi
    · rw [getD_set hli, if_neg hj] at this; exact this
end
end
end Go.Abs
