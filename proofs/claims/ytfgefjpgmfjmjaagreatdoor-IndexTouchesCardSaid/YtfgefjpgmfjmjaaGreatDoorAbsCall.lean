/- Built-in functions, conversions and calls. -/
import Derived.Test.YtfgefjpgmfjmjaaGreatDoorAbsApp
namespace Go.Abs
open Go.RowKit (Below)

section
variable {T : Tabs} {P : Program} {B : Nat} {Q : List Nat} {w₀ w : World} {φ : Inj} {A A' : AHeap}

theorem len_run (H : T.Ok P) (R : Rel B w₀ Q φ A w) {t ty : TypeId} {x v : AV} {x' : Value} (h : len T A t x = some v) (hx : VRel φ x x') : Computes P φ w v (Builtin.len_ #[t] ty #[x']) := by
  unfold len at h
  split at h
  · rename_i s
    split at h
    · rename_i hu
      cases h
      simp only [VRel] at hx
      obtain ⟨u, rfl, rfl⟩ := hx
      exact ⟨goInt u.size, by simp [Builtin.len_, H.run_und hu], by simp only [VRel, bytesOf_length]; rfl⟩
    · cases h
  · split at h
    · rename_i hu
      cases h
      simp only [VRel] at hx; subst hx
      exact ⟨goInt 0, by simp [Builtin.len_, H.run_und hu], by simp only [VRel]; rfl⟩
    · cases h
  · split at h
    · rename_i hu
      cases h
      simp only [VRel] at hx
      obtain ⟨a, c, rfl, _⟩ := hx
      exact ⟨_, by simp [Builtin.len_, H.run_und hu]; rfl, by simp only [VRel]; rfl⟩
    · cases h
  · split at h
    · rename_i hu
      cases h
      simp only [VRel] at hx; subst hx
      exact ⟨goInt 0, by simp [Builtin.len_, H.run_und hu], by simp only [VRel]; rfl⟩
    · cases h
  · rename_i r
    split at h
    · rename_i k e es clock hu hg
      cases h
      simp only [VRel] at hx
      obtain ⟨N, d, hφ, rfl⟩ := hx
      obtain ⟨y, hy, ms, rfl, hes⟩ := R.obj r _ N d hg hφ
      refine ⟨goInt ms.size, ?_, ?_⟩
      · simp [Builtin.len_, H.run_und hu, getObj_run hy]
      · simp only [VRel]
        have : ms.size = es.length := by rw [← Array.length_toList]; exact hes.length
        rw [this]; rfl
    · cases h
  · split at h
    · rename_i hu
      cases h
      simp only [VRel] at hx
      obtain ⟨cs, rfl, _⟩ := hx
      exact ⟨_, by simp [Builtin.len_, H.run_und hu]; rfl, by simp only [VRel]; rfl⟩
    · cases h
  · cases h

theorem maxes_run : ∀ {r : List AV} {r' : List Value} {x v : AV} {x' : Value}, maxes r x = some v → LRel φ r r' → VRel φ x x' → Computes P φ w v (r'.foldlM Builtin.max2 x')
  | [], r', x, v, x', h, hr, hx => by
    simp only [LRel] at hr; subst hr
    cases h
    exact ⟨x', rfl, hx⟩
  | a :: r, r', x, v, x', h, hr, hx => by
    simp only [LRel] at hr
    obtain ⟨b, q, rfl, hb, hq⟩ := hr
    unfold maxes at h
    split at h
    · rename_i hh; cases hh
    · rename_i k' y r₁ k z hh
      cases hh
      simp only [VRel] at hb hx
      subst hb; subst hx
      obtain ⟨u, hu, hur⟩ := maxes_run (x' := .int k (if y > z then y else z)) h hq (by simp only [VRel])
      exact ⟨u, by simp only [List.foldlM_cons, Builtin.max2, Sem.run_bind, Sem.run_pure, Result.andThen_ok]; exact hu, hur⟩
    · cases h
theorem mins_run : ∀ {r : List AV} {r' : List Value} {x v : AV} {x' : Value}, mins r x = some v → LRel φ r r' → VRel φ x x' → Computes P φ w v (r'.foldlM Builtin.min2 x')
  | [], r', x, v, x', h, hr, hx => by
    simp only [LRel] at hr; subst hr
    cases h
    exact ⟨x', rfl, hx⟩
  | a :: r, r', x, v, x', h, hr, hx => by
    simp only [LRel] at hr
    obtain ⟨b, q, rfl, hb, hq⟩ := hr
    unfold mins at h
    split at h
    · rename_i hh; cases hh
    · rename_i k' y r₁ k z hh
      cases hh
      simp only [VRel] at hb hx
      subst hb; subst hx
      obtain ⟨u, hu, hur⟩ := mins_run (x' := .int k (if y < z then y else z)) h hq (by simp only [VRel])
      exact ⟨u, by simp only [List.foldlM_cons, Builtin.min2, Sem.run_bind, Sem.run_pure, Result.andThen_ok]; exact hu, hur⟩
    · cases h

theorem copy_run (H : T.Ok P) (R : Rel B w₀ Q φ A w) {dt st ty : TypeId} {d s v : AV} {d' s' : Value} (h : copy T A dt d s = some (v, A')) (hd : VRel φ d d') (hs : VRel φ s s') :
    Gives P B w₀ Q φ w A' v (Builtin.copy_ #[dt, st] ty #[d', s']) := by
  unfold copy at h
  split at h
  · rename_i elem hu
    split at h
    · rename_i size b o dl cap ex es hsz
      simp only at h
      split at h
      · rename_i n hn
        split at h
        · rename_i cs hcs
          have hk : (bif Nat.ble n dl then n else dl) = Nat.min n dl := by
            cases hb : Nat.ble n dl with
            | true => have := Nat.le_of_ble_eq_true hb; simp only [cond_true]; exact (Nat.min_eq_left this).symm
            | false =>
              have : ¬ n ≤ dl := fun hle => by rw [Nat.ble_eq_true_of_le hle] at hb; cases hb
              simp only [cond_false]; exact (Nat.min_eq_right (by omega)).symm
          rw [hk] at hcs h
          have hkn : Nat.min n dl ≤ n := Nat.min_le_left _ _
          have hkd : Nat.min n dl ≤ dl := Nat.min_le_right _ _
          generalize hkm : Nat.min n dl = k at *
          have hsrc : (Builtin.lenOf s').run P w = .ok n w ∧ ∃ cs' : List Value, LRel φ cs cs' ∧ (Builtin.firstCells size k s').run P w = .ok cs'.toArray w := by
            split at hn
            · cases hn
              simp only [VRel] at hs; subst hs
              cases hcs
              exact ⟨rfl, [], by simp only [LRel], rfl⟩
            · rename_i b' o' m' cap' ex' es'
              cases hn
              refine ⟨?_, sliceCells_run R hcs hs hkn⟩
              simp only [VRel] at hs
              obtain ⟨a, c, rfl, _⟩ := hs
              rfl
            · cases hn
              simp only [VRel] at hs
              obtain ⟨u, rfl, rfl⟩ := hs
              cases hcs
              exact ⟨by rw [bytesOf_length]; rfl, _, strCells_rel u k, by simp only [Builtin.firstCells, Sem.run_pure, Array.toArray_toList]⟩
            · cases hn
          obtain ⟨hlen, cs', hcr, hfirst⟩ := hsrc
          simp only [VRel] at hd
          obtain ⟨a, c, rfl, h1, h2, h3, h4⟩ := hd
          have key : ∀ w', (storeCells a cs').run P w = .ok () w' → (Builtin.copy_ #[dt, st] ty #[.slice (some a) dl c, s']).run P w = .ok (goInt k) w' := by
            intro w' hw'
            simp [Builtin.copy_, H.run_und hu, H.run_size hsz, hlen, hkm, hfirst, hw']
          cases hk0 : Nat.beq k 0 with
          | true =>
            have hk0' := Nat.eq_of_beq_eq_true hk0
            rw [hk0] at h
            simp only [cond_true] at h
            cases h
            have hcs0 : cs = [] := by
              apply List.eq_nil_of_length_eq_zero
              split at hcs
              · cases hcs; rfl
              · have := cells_length hcs; rw [this, hk0', Nat.zero_mul]
              · cases hcs; rw [List.length_map, hk0', takeB_eq]; rfl
              · cases hcs
            subst hcs0
            simp only [LRel] at hcr
            subst hcr
            exact ⟨φ, goInt k, w, key w rfl, φ.le_refl, R, by simp only [VRel, goInt, hk0']; rfl⟩
          | false =>
            have hk0' : k ≠ 0 := by rintro rfl; cases hk0
            rw [hk0] at h
            simp only [cond_false] at h
            split at h
            · rename_i A₁ hst
              cases h
              obtain ⟨N, d, off, f, e, rfl, _⟩ := h4 (by omega)
              obtain ⟨w', hw', R'⟩ := store_run (P := P) R hst f e hcr
              exact ⟨φ, goInt k, w', key w' hw', φ.le_refl, R', by simp only [VRel]; rfl⟩
            · cases h
        · cases h
      · cases h
    · rename_i size hsz
      simp only [VRel] at hd; subst hd
      have hlen : ∃ n arr, (Builtin.lenOf s').run P w = .ok n w ∧ (Builtin.firstCells size 0 s').run P w = .ok arr w := by
        split at h
        · simp only [VRel] at hs; subst hs
          exact ⟨0, #[], rfl, rfl⟩
        · simp only [VRel] at hs
          obtain ⟨a, c, rfl, _⟩ := hs
          exact ⟨_, #[], rfl, by simp [Builtin.firstCells, loadCells, loadCellsFrom]⟩
        · simp only [VRel] at hs
          obtain ⟨u, rfl, rfl⟩ := hs
          exact ⟨_, _, rfl, rfl⟩
        · cases h
      have hv : v = .int .i64 0 ∧ A' = A := by
        split at h
        · cases h; exact ⟨rfl, rfl⟩
        · cases h; exact ⟨rfl, rfl⟩
        · cases h; exact ⟨rfl, rfl⟩
        · cases h
      obtain ⟨rfl, rfl⟩ := hv
      obtain ⟨n, arr, hn, ha⟩ := hlen
      exact ⟨φ, goInt 0, w, by simp [Builtin.copy_, H.run_und hu, H.run_size hsz, hn, ha], φ.le_refl, R, by simp only [VRel]; rfl⟩
    · cases h
  · cases h

theorem convert_run (H : T.Ok P) {src dst : TypeId} {x v : AV} {x' : Value} (h : convert T A src dst x = some (v, A')) (hx : VRel φ x x') : A' = A ∧ Computes P φ w v (Go.convert src dst x') := by
  unfold convert at h
  split at h
  · rename_i q k k' n hs hd
    cases h
    simp only [VRel] at hx; subst hx
    refine ⟨rfl, .int k (k.wrap n), ?_, by simp only [VRel, wrapI]⟩
    simp only [Go.convert, Sem.run_bind, H.run_und hs, H.run_und hd, Result.andThen_ok]
    cases q <;> rfl
  · rename_i q s hs hd
    cases h
    simp only [VRel] at hx
    obtain ⟨u, rfl, rfl⟩ := hx
    refine ⟨rfl, .string u, ?_, by simp only [VRel]; exact ⟨u, rfl, rfl⟩⟩
    simp only [Go.convert, Sem.run_bind, H.run_und hs, H.run_und hd, Result.andThen_ok]
    cases q <;> rfl
  · cases h
end
end Go.Abs
