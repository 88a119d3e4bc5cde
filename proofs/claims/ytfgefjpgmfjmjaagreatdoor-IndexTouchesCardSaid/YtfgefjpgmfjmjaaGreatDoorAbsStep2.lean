/- Steps of a whole machine: entering, panicking, what an operation does to its frame. -/
import Derived.Test.YtfgefjpgmfjmjaaGreatDoorAbsStep
namespace Go.Abs
open Go.RowKit (Below)

section
variable {T : Tabs} {P : Program} {B : Nat} {Q : List Nat} {w₀ w w' : World} {φ ψ : Inj} {A A' : AHeap} {f : FuncId} {cs₀ : List Frame}

theorem putArgs_nil (keep : Tree Unit) (i : Nat) (t : Tree AV) : putArgs keep [] i t = t := rfl
theorem putArgs_cons (keep : Tree Unit) (v : AV) (r : List AV) (i : Nat) (t : Tree AV) : putArgs keep (v :: r) i t = putArgs keep r (i + 1) (putKept keep t i v) := rfl
theorem putArgs_rel {keep : Tree Unit} {arr : Array Value} : ∀ (args : List AV) (i : Nat) (t : Tree AV), TRel φ t arr → (∀ j (h : j < args.length), VRel φ args[j] (arr.getD (i + j) undef)) → TRel φ (putArgs keep args i t) arr
  | [], i, t, ht, _ => by rw [putArgs_nil]; exact ht
  | v :: r, i, t, ht, h => by
    rw [putArgs_cons]
    refine putArgs_rel r (i + 1) _ (fun u => ?_) fun j hj => ?_
    · rw [putKept_get]
      split
      · rename_i hc
        obtain ⟨rfl, _⟩ := hc
        have := h 0 (by simp)
        simpa using this
      · exact ht u
    · have := h (j + 1) (by simpa using hj)
      rw [show i + 1 + j = i + (j + 1) by omega]
      simpa using this
theorem putArgs_ok {keep : Tree Unit} : ∀ (args : List AV) (i : Nat) (t : Tree AV), KeepOk keep t → KeepOk keep (putArgs keep args i t)
  | [], i, t, h => by rw [putArgs_nil]; exact h
  | v :: r, i, t, h => by rw [putArgs_cons]; exact putArgs_ok r (i + 1) _ (putKept_ok h i v)
theorem leaf_rel (arr : Array Value) : TRel φ .leaf arr := fun t => by
  show VRel φ .any _
  simp only [VRel]
theorem leaf_ok (keep : Tree Unit) : KeepOk keep .leaf := fun _ _ => rfl

theorem enter_rel (H : T.Ok P) {g : FuncId} {args : List AV} {vs : Array Value} {kind : CallKind} {c : AFrame} (h : enterFrame T g args kind = some c) (ha : LRel φ args vs.toList) :
    FRel φ [] false c (Frame.enter P g vs kind) ∧ c.base.fn = g ∧ c.base.kind = kind ∧ c.base.roundOf = none ∧ c.mode = .run := by
  unfold enterFrame at h
  split at h
  · rename_i e he
    unfold entryOf at he
    split at he
    · rename_i fn hfn
      split at he
      · rename_i body hbody
        rw [Tree.strict_eq] at he
        cases he
        unfold enterWith at h
        simp only at h
        cases hb : Nat.ble args.length fn.ntmps with
        | false => rw [hb] at h; cases h
        | true =>
          rw [hb] at h
          replace h : some (AFrame.mk ⟨g, fn.ntmps, keepOf body (keepResults fn.results.toList .leaf), kind, none⟩ (putArgs (keepOf body (keepResults fn.results.toList .leaf)) args 0 .leaf) [.code body] [] .run) = some c := h
          cases h
          have hle := Nat.le_of_ble_eq_true hb
          have hl := ha.length
          simp only [Array.length_toList] at hl
          obtain ⟨hf, _⟩ := H.fns _ _ hfn
          have hfr : Frame.enter P g vs kind = ⟨g, vs ++ Array.replicate (fn.ntmps - vs.size) undef, [.code body], [], .run, kind, none⟩ := by
            simp [Frame.enter, hf, hbody]
          rw [hfr]
          refine ⟨⟨rfl, rfl, ?_, fun h => absurd rfl h, putArgs_ok _ _ _ (leaf_ok _), rfl, .nil, rfl, rfl, .cons rfl .nil, ?_⟩, rfl, rfl, rfl, rfl⟩
          · show (vs ++ Array.replicate (fn.ntmps - vs.size) undef).size = fn.ntmps
            rw [Array.size_append, Array.size_replicate]; omega
          · refine putArgs_rel _ _ _ (leaf_rel _) fun j hj => ?_
            obtain ⟨v, hv, hr⟩ := LRel.get j ha hj
            have : (vs ++ Array.replicate (fn.ntmps - vs.size) undef).getD (0 + j) undef = v := by
              rw [Nat.zero_add, Array.getD_eq_getD_getElem?, Array.getElem?_append_left (by omega)]
              have : vs[j]? = some v := by simpa using hv
              rw [this]; rfl
            rw [this]; exact hr
      · cases he
    · cases he
  · cases h

/-! Panics -/

theorem loseDsts_get (t : Tmp) : ∀ (l : List Oper) (tmps : Tree AV), getTmp (loseDsts l tmps) t = .any ∨ (getTmp (loseDsts l tmps) t = getTmp tmps t ∧ ∀ o ∈ l, o.dst ≠ some t)
  | [], tmps => .inr ⟨rfl, by intro o ho; cases ho⟩
  | o :: r, tmps => by
    unfold loseDsts
    cases hd : o.dst with
    | none =>
      rcases loseDsts_get t r tmps with h | ⟨h1, h2⟩
      · exact .inl h
      · refine .inr ⟨h1, fun p hp => ?_⟩
        rcases List.mem_cons.1 hp with rfl | hp
        · rw [hd]; intro h; cases h
        · exact h2 p hp
    | some d =>
      rcases loseDsts_get t r (tmps.put d (some .any)) with h | ⟨h1, h2⟩
      · exact .inl h
      · simp only
        rw [h1, getTmp_put]
        by_cases ht : t = d
        · rw [if_pos ht]; exact .inl rfl
        · rw [if_neg ht]
          refine .inr ⟨rfl, fun p hp => ?_⟩
          rcases List.mem_cons.1 hp with rfl | hp
          · rw [hd]; intro h; cases h; exact ht rfl
          · exact h2 p hp
theorem loseDsts_ok {keep : Tree Unit} {tmps : Tree AV} (h : KeepOk keep tmps) (l : List Oper) : KeepOk keep (loseDsts l tmps) := by
  intro t ht
  rcases loseDsts_get t l tmps with h1 | ⟨h1, _⟩
  · exact h1
  · rw [h1]; exact h t ht
theorem loseDsts_rel {l : List Oper} {tmps : Tree AV} {arr : Array Value} (h : ∀ t, (∀ o ∈ l, o.dst ≠ some t) → VRel φ (getTmp tmps t) (arr.getD t undef)) : TRel φ (loseDsts l tmps) arr := by
  intro t
  rcases loseDsts_get t l tmps with h1 | ⟨h1, h2⟩
  · rw [h1]; simp only [VRel]
  · rw [h1]; exact h t h2

theorem srcOf_notin {t : Tmp} : ∀ {prev : List (Option Tmp)}, (∀ d ∈ prev, d ≠ some t) → srcOf t prev = none
  | [], _ => rfl
  | none :: r, h => by rw [srcOf_none, srcOf_notin fun d hd => h d (List.mem_cons_of_mem _ hd)]; rfl
  | some d :: r, h => by
    rw [srcOf_other t (fun e => h (some d) (by simp) (by rw [e])), srcOf_notin fun d hd => h d (List.mem_cons_of_mem _ hd)]; rfl

theorem PanRel.append {a b : List APanic} {a' b' : List PanicEntry} (h : PanRel φ a a') (k : PanRel φ b b') : PanRel φ (a ++ b) (a' ++ b') := by
  induction h with
  | nil => exact k
  | cons hv _ ih => exact .cons hv ih

theorem raise_base (a : AFrame) (vs : List APanic) : (raise a vs).base = a.base := by
  obtain ⟨base, tmps, todo, defers, mode⟩ := a
  unfold raise
  simp only
  split
  · rfl
  · split <;> rfl
theorem raise_mode (a : AFrame) (vs : List APanic) : (raise a vs).mode ≠ .run := by
  obtain ⟨base, tmps, todo, defers, mode⟩ := a
  unfold raise
  simp only
  split
  · intro h; cases h
  · split <;> (intro h; cases h)

theorem raise_rel {q : List Nat} {wait : Bool} {a : AFrame} {fr : Frame} (F : FRel φ q wait a fr) {vs : List APanic} {vs' : List PanicEntry} (hv : PanRel φ vs vs') : FRel φ [] false (raise a vs) (fr.raise vs') := by
  obtain ⟨base, tmps, todo, defers, mode⟩ := a
  obtain ⟨fn, tmps', rtodo, rdefers, rmode, kind, ro⟩ := fr
  cases mode with
  | panicking c =>
    obtain ⟨c', e, hc⟩ := F.mode
    replace e : rmode = _ := e
    subst e
    exact ⟨F.fn, F.kind, F.nt, F.own, F.keep, F.round, F.defers, ⟨_, rfl, hv.append hc⟩, rfl, F.body.2⟩
  | returning =>
    have e : rmode = .returning := F.mode
    subst e
    have ht : TRel φ tmps tmps' := F.body.2
    unfold raise
    simp only
    split
    · exact ⟨F.fn, F.kind, F.nt, F.own, loseDsts_ok F.keep _, F.round, F.defers, ⟨_, rfl, hv⟩, rfl, loseDsts_rel fun t _ => ht t⟩
    · exact ⟨F.fn, F.kind, F.nt, F.own, loseDsts_ok F.keep _, F.round, F.defers, ⟨_, rfl, hv⟩, rfl, loseDsts_rel fun t _ => ht t⟩
    · exact ⟨F.fn, F.kind, F.nt, F.own, F.keep, F.round, F.defers, ⟨_, rfl, hv⟩, rfl, ht⟩
  | run =>
    have e : rmode = .run := F.mode
    subst e
    have hb : TodoRel φ q base.nt wait tmps todo tmps' rtodo := F.body
    unfold raise
    simp only
    split
    · rename_i ops s vals k
      obtain ⟨is, k', e, hk, ⟨Pl, fuel, t, listed, D, _⟩, _⟩ := hb
      refine ⟨F.fn, F.kind, F.nt, F.own, loseDsts_ok F.keep _, F.round, F.defers, ⟨_, rfl, hv⟩, rfl, loseDsts_rel fun t ht => D.old t fun i o ho hd => ?_⟩
      exact absurd hd (ht o (List.mem_of_getElem? (by rw [Array.getElem?_toList]; exact ho)))
    · rename_i ops rest prev vals k
      obtain ⟨_, is, k', e, hk, done, h1, h2, h3, h4, h5, h6⟩ := hb
      refine ⟨F.fn, F.kind, F.nt, F.own, loseDsts_ok F.keep _, F.round, F.defers, ⟨_, rfl, hv⟩, rfl, loseDsts_rel fun t ht => ?_⟩
      obtain ⟨a, ha, hr⟩ := h6 t
      have : srcOf t prev = none := srcOf_notin fun d hd he => by
        rw [h2] at hd
        obtain ⟨p, hp, hpd⟩ := List.mem_map.1 (List.mem_reverse.1 hd)
        exact ht p (by rw [h1]; simp [hp]) (by rw [hpd, he])
      rw [this, tmpIn_none] at ha
      cases ha; exact hr
    · rename_i h1 h2
      unfold TodoRel at hb
      split at hb
      · exact absurd rfl (h2 _ _ _ _ _)
      · exact absurd rfl (h1 _ _ _ _)
      · exact ⟨F.fn, F.kind, F.nt, F.own, F.keep, F.round, F.defers, ⟨_, rfl, hv⟩, rfl, hb.2.2⟩
end
end Go.Abs
