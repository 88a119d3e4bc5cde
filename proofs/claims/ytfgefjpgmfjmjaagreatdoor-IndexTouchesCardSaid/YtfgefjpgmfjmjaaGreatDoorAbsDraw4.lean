/- Regions that draw their order: from act to act. -/
import Derived.Test.YtfgefjpgmfjmjaaGreatDoorAbsDraw3
namespace Go.Abs
open Go.RowKit (Below)

section
variable {T : Tabs} {P : Program} {B : Nat} {Q : List Nat} {w₀ w w' : World} {φ ψ : Inj} {A A' : AHeap}

theorem binds_any (e : Edge) : Region.binds .any e = binding e := by
  unfold Region.binds binding
  cases e.ground <;> rfl

theorem go_cases (ops : Array Oper) (fuel t : Nat) (listed : Array Bool) :
    (Region.linearise.go .any ops fuel t listed [] = [] ∧ (fuel = 0 ∨ Region.ready .any ops listed = [])) ∨
    ∃ i fuel' t', fuel = fuel' + 1 ∧ i ∈ Region.ready .any ops listed ∧ Region.linearise.go .any ops fuel t listed [] = i :: Region.linearise.go .any ops fuel' t' (listed.setIfInBounds i true) [] := by
  cases fuel with
  | zero => exact .inl ⟨rfl, .inl rfl⟩
  | succ fuel =>
    have hg : Region.linearise.go .any ops (fuel + 1) t listed [] = match (Region.ready .any ops listed)[t % (Region.ready .any ops listed).length]? with
      | some i => Region.linearise.go .any ops fuel (t / (Region.ready .any ops listed).length) (listed.setIfInBounds i true) [i]
      | none => [].reverse := rfl
    rw [hg]
    cases hi : (Region.ready .any ops listed)[t % (Region.ready .any ops listed).length]? with
    | none =>
      refine .inl ⟨rfl, .inr ?_⟩
      cases hr : Region.ready .any ops listed with
      | nil => rfl
      | cons x xs =>
        rw [hr] at hi
        have hlt : t % (x :: xs).length < (x :: xs).length := Nat.mod_lt _ (by simp)
        rw [List.getElem?_eq_getElem hlt] at hi
        cases hi
    | some i =>
      refine .inr ⟨i, fuel, t / (Region.ready .any ops listed).length, rfl, List.mem_of_getElem? hi, ?_⟩
      show Region.linearise.go .any ops fuel (t / (Region.ready .any ops listed).length) (listed.setIfInBounds i true) [i] = _
      rw [linearise_go_acc, List.reverse_singleton, List.singleton_append]

theorem ready_mem {ops : Array Oper} {listed : Array Bool} {i : Nat} (h : i ∈ Region.ready .any ops listed) :
    ∃ o, ops[i]? = some o ∧ listed.getD i true = false ∧ ∀ e ∈ o.after.toList, binding e = true → listed.getD e.on false = true := by
  unfold Region.ready at h
  obtain ⟨h1, h2⟩ := List.mem_filter.1 h
  simp only [Bool.and_eq_true, Bool.not_eq_true'] at h2
  cases ho : ops[i]? with
  | none => rw [ho] at h2; exact absurd h2.2 (by simp)
  | some o =>
    rw [ho] at h2
    refine ⟨o, rfl, h2.1, fun e he hb => ?_⟩
    have h3 := h2.2
    simp only [Option.map_some, Option.getD_some] at h3
    rw [Array.all_eq_true'] at h3
    have := h3 e (Array.mem_def.2 he)
    rw [binds_any, hb] at this
    simpa using this

theorem ready_of {ops : Array Oper} {listed : Array Bool} {i : Nat} {o : Oper} (ho : ops[i]? = some o) (hl : listed.getD i true = false) (he : ∀ e ∈ o.after.toList, binding e = true → listed.getD e.on false = true) :
    i ∈ Region.ready .any ops listed := by
  unfold Region.ready
  refine List.mem_filter.2 ⟨List.mem_range.2 (lt_of_some ho), ?_⟩
  simp only [hl, ho, Option.map_some, Option.getD_some, Bool.not_false, Bool.true_and]
  rw [Array.all_eq_true']
  intro e hm
  rw [binds_any]
  cases hb : binding e with
  | false => rfl
  | true => simpa using he e (Array.mem_def.1 hm) hb

theorem edgesOk_lt : ∀ {l : List Oper} {i : Nat}, edgesOk l i = true → ∀ (k : Nat) (o : Oper), l[k]? = some o → ∀ e ∈ o.after.toList, binding e = true → e.on < i + k
  | [], _, _, k, o, h => by simp at h
  | p :: r, i, h, k, o, ho => by
    simp only [edgesOk, Bool.and_eq_true] at h
    cases k with
    | zero =>
      have : p = o := by simpa using ho
      subst this
      intro e he hb
      have := List.all_eq_true.1 h.1 e he
      rw [hb] at this
      simpa using this
    | succ k =>
      intro e he hb
      have := edgesOk_lt h.2 k o (by simpa using ho) e he hb
      omega

theorem all_listed {ops : Array Oper} {listed : Array Bool} (hs : listed.size = ops.size) (he : edgesOk ops.toList 0 = true) {fuel : Nat} (hf : (unlisted ops.size listed).length ≤ fuel) (h : fuel = 0 ∨ Region.ready .any ops listed = []) :
    ∀ i, i < ops.size → listed.getD i true = true := by
  intro i
  rcases h with h | h
  · intro hi
    subst h
    have hnil : unlisted ops.size listed = [] := List.eq_nil_of_length_eq_zero (by omega)
    cases hl : listed.getD i true with
    | true => rfl
    | false =>
      have : i ∈ unlisted ops.size listed := List.mem_filter.2 ⟨List.mem_range.2 hi, by rw [hl]; rfl⟩
      rw [hnil] at this; cases this
  · induction i using Nat.strongRecOn with
    | _ i ih =>
      intro hi
      cases hl : listed.getD i true with
      | true => rfl
      | false =>
        have : i ∈ Region.ready .any ops listed := ready_of (Array.getElem?_eq_getElem hi) hl (fun e hm hb => by
          have hlt := edgesOk_lt he i ops[i] (by rw [Array.getElem?_toList]; exact Array.getElem?_eq_getElem hi) e hm hb
          rw [Nat.zero_add] at hlt
          have := ih e.on hlt (by omega)
          rw [getD_flip (by omega)] at this; exact this)
        rw [h] at this; cases this

theorem filter_lt {p p' : Nat → Bool} {x : Nat} : ∀ {L : List Nat}, (∀ y ∈ L, p' y = true → p y = true) → x ∈ L → p x = true → p' x = false → (L.filter p').length < (L.filter p).length
  | [], _, h, _, _ => by cases h
  | a :: L, hc, hm, h1, h2 => by
    have le : ∀ {L : List Nat}, (∀ y ∈ L, p' y = true → p y = true) → (L.filter p').length ≤ (L.filter p).length := by
      intro L
      induction L with
      | nil => intro _; simp
      | cons b L ih =>
        intro hc
        have ih := ih fun y hy => hc y (List.mem_cons_of_mem _ hy)
        cases hb : p' b with
        | true => rw [List.filter_cons_of_pos hb, List.filter_cons_of_pos (hc b (by simp) hb)]; simp; exact ih
        | false =>
          rw [List.filter_cons_of_neg (by rw [hb]; simp)]
          cases hpb : p b with
          | true => rw [List.filter_cons_of_pos hpb]; simp; omega
          | false => rw [List.filter_cons_of_neg (by rw [hpb]; simp)]; exact ih
    by_cases ha : a = x
    · subst ha
      rw [List.filter_cons_of_neg (by rw [h2]; simp), List.filter_cons_of_pos h1]
      have := le fun y hy => hc y (List.mem_cons_of_mem _ hy)
      simp; omega
    · have hm' : x ∈ L := by
        rcases List.mem_cons.1 hm with h | h
        · exact absurd h.symm ha
        · exact h
      have ih := filter_lt (fun y hy => hc y (List.mem_cons_of_mem _ hy)) hm' h1 h2
      cases hb : p' a with
      | true => rw [List.filter_cons_of_pos hb, List.filter_cons_of_pos (hc a (by simp) hb)]; simp; exact ih
      | false =>
        rw [List.filter_cons_of_neg (by rw [hb]; simp)]
        cases hpb : p a with
        | true => rw [List.filter_cons_of_pos hpb]; simp; omega
        | false => rw [List.filter_cons_of_neg (by rw [hpb]; simp)]; exact ih
theorem unlisted_lt {n i : Nat} {listed : Array Bool} (hi : i < n) (hs : listed.size = n) (hl : listed.getD i true = false) : (unlisted n (listed.setIfInBounds i true)).length < (unlisted n listed).length := by
  unfold unlisted
  refine filter_lt (x := i) ?_ (List.mem_range.2 hi) (by rw [hl]; rfl) (by rw [getD_set (by omega), if_pos rfl]; rfl)
  intro y _ hy
  rw [getD_set (by omega)] at hy
  by_cases h : y = i
  · rw [if_pos h] at hy; cases hy
  · rw [if_neg h] at hy; exact hy

theorem lo_le {m : Nat} : ∀ {acts : List Nat} {s : Nat}, (∀ a, nth acts s = some a → bit m a = false) → loStage m acts ≤ s
  | [], s, _ => Nat.zero_le _
  | a :: r, 0, h => by
    unfold loStage
    rw [h a rfl]; exact Nat.le_refl _
  | a :: r, s + 1, h => by
    unfold loStage
    cases bit m a with
    | false => exact Nat.zero_le _
    | true =>
      have := lo_le (m := m) (acts := r) (s := s) fun b hb => h b hb
      simp only [cond_true]; omega
theorem hi_ge {ms : List Nat} {i : Nat} : ∀ {acts : List Nat} {s : Nat}, s ≤ acts.length → (∀ k a, k < s → nth acts k = some a → ∃ m, nth ms a = some m ∧ bit m i = false) → s ≤ hiStage ms i acts
  | [], s, h, _ => by simp at h; omega
  | a :: r, 0, _, _ => Nat.zero_le _
  | a :: r, s + 1, hs, h => by
    unfold hiStage
    obtain ⟨m, h1, h2⟩ := h 0 a (by omega) rfl
    rw [h1]
    simp only [h2, cond_false]
    have := hi_ge (ms := ms) (i := i) (acts := r) (s := s) (by simpa using hs) fun k b hk hb => h (k + 1) b (by omega) hb
    omega

theorem actsFrom_mem {l : List Oper} : ∀ {r pre : List Oper}, l = pre ++ r → ∀ (i : Nat) (o : Oper), pre.length ≤ i → l[i]? = some o → actsOp o.op = true → i ∈ actsFrom r pre.length
  | [], pre, hl, i, o, hi, ho, _ => by
    have : i < l.length := by
      rcases Nat.lt_or_ge i l.length with h | h
      · exact h
      · rw [List.getElem?_eq_none h] at ho; cases ho
    have h2 : l.length = pre.length := by rw [hl]; simp
    omega
  | p :: r, pre, hl, i, o, hi, ho, ha => by
    unfold actsFrom
    have hlen : (pre ++ [p]).length = pre.length + 1 := by simp
    by_cases h : i = pre.length
    · subst h
      have hp : l[pre.length]? = some p := by rw [hl]; simp
      rw [hp] at ho; cases ho
      rw [ha]; simp
    · have := actsFrom_mem (r := r) (pre := pre ++ [p]) (l := l) (by rw [hl]; simp) i o (by rw [hlen]; omega) ho ha
      rw [hlen] at this
      cases actsOp p.op with
      | true => simp only [cond_true]; exact List.mem_cons_of_mem _ this
      | false => exact this
theorem inRow_prev {ms : List Nat} : ∀ {acts : List Nat}, inRow ms acts = true → ∀ k a b, nth acts k = some a → nth acts (k + 1) = some b → ∃ m, nth ms b = some m ∧ bit m a = true
  | [], _, k, a, b, h, _ => by cases h
  | [x], _, k, a, b, _, h => by rw [nth_succ, nth_nil] at h; cases h
  | x :: y :: r, h, k, a, b, h1, h2 => by
    simp only [inRow, Bool.and_eq_true] at h
    cases k with
    | zero =>
      rw [nth_zero] at h1; cases h1
      rw [nth_succ, nth_zero] at h2; cases h2
      have h' := h.1
      split at h'
      · rename_i m hm; exact ⟨m, hm, h'⟩
      · cases h'
    | succ k =>
      rw [nth_succ] at h1 h2
      exact inRow_prev h.2 k a b h1 h2
end
end Go.Abs
