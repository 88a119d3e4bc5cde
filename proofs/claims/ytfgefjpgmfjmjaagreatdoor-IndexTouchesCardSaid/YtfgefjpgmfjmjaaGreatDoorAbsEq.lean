/- Comparisons. -/
import Derived.Test.YtfgefjpgmfjmjaaGreatDoorAbsOps
namespace Go.Abs
open Go.RowKit (Below)

section
variable {T : Tabs} {P : Program} {B : Nat} {Q : List Nat} {w₀ w : World} {φ : Inj} {A : AHeap}

theorem sameAddr_self (N i j : Nat) : (sameAddr ⟨N, i, none⟩ ⟨N, j, none⟩).run P w = .ok (i == j) w := by
  unfold sameAddr
  have : ((⟨N, i, none⟩ : Addr) == ⟨N, j, none⟩) = (i == j) := by
    rw [Bool.eq_iff_iff, beq_iff_eq, beq_iff_eq]
    exact ⟨fun h => by cases h; rfl, fun h => by rw [h]⟩
  simp [this]

theorem shape_of (R : Rel B w₀ Q φ A w) {b c lo hi : Nat} {cs : Tree AV} {e : TypeId} {wr : Bool} {N : Nat} {d : Int} (hg : A.objs.get b = some (.row c lo hi cs e wr)) (hφ : φ b = some (N, d)) :
    ∃ n, w.shape? N = some (e, n) := by
  obtain ⟨r, hr, rc, fr, rfl, _, _⟩ := R.obj b _ N d hg hφ
  exact ⟨rc.size, by simp [World.shape?, hr]⟩

theorem sameAddr_other (R : Rel B w₀ Q φ A w) {a b ca lo₁ hi₁ cb lo₂ hi₂ : Nat} {cs₁ cs₂ : Tree AV} {e₁ e₂ : TypeId} {N₁ N₂ : Nat} {d₁ d₂ : Int}
    (ha : A.objs.get a = some (.row ca lo₁ hi₁ cs₁ e₁ true)) (hb : A.objs.get b = some (.row cb lo₂ hi₂ cs₂ e₂ true)) (fa : φ a = some (N₁, d₁)) (fb : φ b = some (N₂, d₂)) (hc : ca ≠ cb)
    (i j : Nat) : (sameAddr ⟨N₁, i, none⟩ ⟨N₂, j, none⟩).run P w = .ok false w := by
  have hne : a ≠ b := by rintro rfl; rw [ha] at hb; cases hb; exact hc rfl
  have hN : N₁ ≠ N₂ := by
    rintro rfl
    obtain ⟨_, c, _, _, _, _, _, _, _, _, e1, e2⟩ := R.sep a b _ _ _ _ _ hne fa fb ha hb rfl
    cases e1; cases e2; exact hc rfl
  have hN' : ¬ N₂ = N₁ := fun h => hN h.symm
  obtain ⟨n₁, s1⟩ := shape_of R ha fa
  obtain ⟨n₂, s2⟩ := shape_of R hb fb
  have f1 := fun o s => free_of R ha fa o s
  have f2 := fun o s => free_of R hb fb o s
  simp [sameAddr, hN, noView, viewAt, s1, s2, mayBeOne, stringish, f1, f2]

theorem eqInt {d : Nat} {t : TypeId} {k k' j : IntKind} {a b : Int} (h : P.underlying t = some (.int j)) (hk : k = k') :
    (Op.equalIn (d + 1) t (.int k a) (.int k' b)).run P w = .ok (a == b) w := by
  subst hk; exact run_equalIn_int w d t k j a b h

theorem allM_cons {α : Type} {f : α → Option Bool} {x : α} {l : List α} {r : Bool} (h : allM f (x :: l) = some r) :
    (f x = some false ∧ r = false) ∨ (f x = some true ∧ allM f l = some r) := by
  unfold allM at h
  split at h
  · rename_i h1; exact .inr ⟨h1, h⟩
  · rename_i h1; cases h; exact .inl ⟨h1, rfl⟩
  · cases h

theorem equalIn_run (H : T.Ok P) (R : Rel B w₀ Q φ A w) : ∀ (d : Nat) (t : TypeId) (x y : AV) (x' y' : Value) (r : Bool), equalIn T A d t x y = some r → VRel φ x x' → VRel φ y y' →
    (Op.equalIn d t x' y').run P w = .ok r w
  | 0, t, x, y, x', y', r, h, _, _ => by simp [equalIn] at h
  | d + 1, t, x, y, x', y', r, h, hx, hy => by
    have ih := equalIn_run H R d
    unfold equalIn at h
    split at h
    · -- bool
      split at h
      · rename_i hu
        cases h
        simp only [VRel] at hx hy; subst hx; subst hy
        rw [boolEq_iff]; exact run_equalIn_bool' w d t _ _ (H.und hu)
      · cases h
    · -- int
      split at h
      · rename_i hu
        cases hk : kindEq _ _ with
        | false => rw [hk] at h; cases h
        | true =>
          rw [hk] at h; cases h
          simp only [VRel] at hx hy; subst hx; subst hy
          rw [intEq_iff]; exact eqInt (H.und hu) ((kindEq_iff _ _).1 hk)
      · cases h
    · -- text
      split at h
      · rename_i hu
        cases h
        simp only [VRel] at hx hy
        obtain ⟨a, rfl, rfl⟩ := hx
        obtain ⟨b, rfl, rfl⟩ := hy
        rw [natsEq_bytes]; exact run_equalIn_string w d t _ _ (H.und hu)
      · cases h
    · -- nil, nil
      split at h
      · rename_i hu
        cases h
        simp only [VRel] at hx hy; subst hx; subst hy
        simp [Op.equalIn, H.run_und hu]
      · cases h
    · split at h
      · rename_i hu
        cases h
        simp only [VRel] at hx hy; subst hx
        obtain ⟨N, e, off, _, _, rfl⟩ := hy
        simp [Op.equalIn, H.run_und hu]
      · cases h
    · split at h
      · rename_i hu
        cases h
        simp only [VRel] at hx hy; subst hy
        obtain ⟨N, e, off, _, _, rfl⟩ := hx
        simp [Op.equalIn, H.run_und hu]
      · cases h
    · -- pointers
      rename_i a i b j
      split at h
      · rename_i e hu
        split at h
        · rename_i n hn
          simp only [VRel] at hx hy
          obtain ⟨N₁, d₁, o₁, f₁, e₁, rfl⟩ := hx
          obtain ⟨N₂, d₂, o₂, f₂, e₂, rfl⟩ := hy
          have key : (Op.equalIn (d + 1) t (.pointer (some ⟨N₁, o₁, none⟩)) (.pointer (some ⟨N₂, o₂, none⟩))).run P w = (sameAddr ⟨N₁, o₁, none⟩ ⟨N₂, o₂, none⟩).run P w := by
            simp [Op.equalIn, H.run_und hu, H.run_size hn]
          rw [key]
          cases hab : Nat.beq a b with
          | true =>
            rw [hab] at h
            obtain rfl := Nat.eq_of_beq_eq_true hab
            cases h
            rw [f₁] at f₂; cases f₂
            rw [sameAddr_self]
            congr 1
            rw [Bool.eq_iff_iff, beq_iff_eq]
            constructor
            · intro h; have : i = j := by omega
              rw [this]; exact Nat.beq_refl _
            · intro h; have := Nat.eq_of_beq_eq_true h; omega
          | false =>
            rw [hab] at h
            simp only [cond_false] at h
            split at h
            · rename_i c _ _ _ _ c' _ _ _ _ ha hb
              cases hcc : Nat.beq c c' with
              | true => rw [hcc] at h; cases h
              | false =>
                rw [hcc] at h; cases h
                refine sameAddr_other R ha hb f₁ f₂ ?_ _ _
                rintro rfl
                rw [Nat.beq_refl] at hcc; cases hcc
            · cases h
        · cases h
      · cases h
    · split at h
      · rename_i hu
        cases h
        simp only [VRel] at hx hy; subst hx; subst hy
        simp [Op.equalIn, H.run_und hu]
      · cases h
    · split at h
      · rename_i hu
        cases h
        simp only [VRel] at hx hy; subst hx
        obtain ⟨z, rfl, _⟩ := hy
        simp [Op.equalIn, H.run_und hu]
      · cases h
    · split at h
      · rename_i hu
        cases h
        simp only [VRel] at hx hy; subst hy
        obtain ⟨z, rfl, _⟩ := hx
        simp [Op.equalIn, H.run_und hu]
      · cases h
    · -- interface values
      rename_i u v u' v'
      split at h
      · rename_i ms hu
        simp only [VRel] at hx hy
        obtain ⟨a, rfl, ha⟩ := hx
        obtain ⟨b, rfl, hb⟩ := hy
        cases huu : Nat.beq u u' with
        | false =>
          rw [huu] at h; cases h
          have hne : u ≠ u' := by rintro rfl; rw [Nat.beq_refl] at huu; cases huu
          simp [Op.equalIn, H.run_und hu, hne]
        | true =>
          rw [huu] at h
          obtain rfl := Nat.eq_of_beq_eq_true huu
          simp only [cond_true] at h
          split at h
          · rename_i i hi
            cases hc : i.comparable with
            | false => rw [hc] at h; cases h
            | true =>
              rw [hc] at h
              simp only [cond_true] at h
              have := ih u v v' a b r h ha hb
              simp [Op.equalIn, H.run_und hu, H.run_info hi, hc, this]
          · cases h
      · cases h
    · -- structs
      rename_i xs ys
      split at h
      · rename_i fields hu
        split at h
        · rename_i hp
          simp only [VRel] at hx hy
          obtain ⟨xs', rfl, hx⟩ := hx
          obtain ⟨ys', rfl, hy⟩ := hy
          have hund := H.und hu
          have hfo : P.fieldsOf t = ⟨fields⟩ := by unfold Program.fieldsOf; rw [hund]
          rw [run_equalIn_agg w d t xs' ys' (by rw [hfo]; exact hund) (H.plain t hp).2, hfo]
          clear hu hund hfo hp
          induction fields with
          | nil => simp only [allM, Option.some.injEq] at h; subst h; simp [Op.eqFields]
          | cons f fs ihf =>
            rcases allM_cons h with ⟨h1, rfl⟩ | ⟨h1, h2⟩
            · by_cases hname : f.name = "_"
              · rw [if_pos hname] at h1; cases h1
              · rw [if_neg hname] at h1
                split at h1
                · rename_i u v h3 h4
                  obtain ⟨u', hu', ru⟩ := part_run (w := w) H hx h3
                  obtain ⟨v', hv', rv⟩ := part_run (w := w) H hy h4
                  have := ih _ _ _ _ _ _ h1 ru rv
                  simp [Op.eqFields, hname, hu', hv', this]
                · cases h1
            · by_cases hname : f.name = "_"
              · rw [if_pos hname] at h1; cases h1
              · rw [if_neg hname] at h1
                split at h1
                · rename_i u v h3 h4
                  obtain ⟨u', hu', ru⟩ := part_run (w := w) H hx h3
                  obtain ⟨v', hv', rv⟩ := part_run (w := w) H hy h4
                  have := ih _ _ _ _ _ _ h1 ru rv
                  have h5 := ihf h2
                  simp only at h5
                  simp [Op.eqFields, hname, hu', hv', this, h5]
                · cases h1
        · cases h
      · cases h
    · split at h
      · rename_i hu
        cases h
        simp only [VRel] at hx hy; subst hx; subst hy
        simp [Op.equalIn, H.run_und hu]
      · cases h
    · split at h
      · rename_i hu
        cases h
        simp only [VRel] at hx hy; subst hx
        obtain ⟨a, c, rfl, _⟩ := hy
        simp [Op.equalIn, H.run_und hu]
      · cases h
    · split at h
      · rename_i hu
        cases h
        simp only [VRel] at hx hy; subst hy
        obtain ⟨a, c, rfl, _⟩ := hx
        simp [Op.equalIn, H.run_und hu]
      · cases h
    · split at h
      · rename_i hu
        cases h
        simp only [VRel] at hx hy; subst hx; subst hy
        simp [Op.equalIn, H.run_und hu]
      · cases h
    · split at h
      · rename_i hu
        cases h
        simp only [VRel] at hx hy; subst hx
        obtain ⟨a, c, _, rfl⟩ := hy
        simp [Op.equalIn, H.run_und hu]
      · cases h
    · split at h
      · rename_i hu
        cases h
        simp only [VRel] at hx hy; subst hy
        obtain ⟨a, c, _, rfl⟩ := hx
        simp [Op.equalIn, H.run_und hu]
      · cases h
    · split at h
      · rename_i hu
        cases h
        simp only [VRel] at hx hy; subst hx; subst hy
        simp [Op.equalIn, H.run_und hu]
      · cases h
    · split at h
      · rename_i hu
        cases h
        simp only [VRel] at hx hy; subst hx
        obtain ⟨g, a, c, rfl, _⟩ := hy
        simp [Op.equalIn, H.run_und hu]
      · cases h
    · split at h
      · rename_i hu
        cases h
        simp only [VRel] at hx hy; subst hy
        obtain ⟨g, a, c, rfl, _⟩ := hx
        simp [Op.equalIn, H.run_und hu]
      · cases h
    · cases h

theorem equal_run (H : T.Ok P) (R : Rel B w₀ Q φ A w) {t : TypeId} {x y : AV} {x' y' : Value} {r : Bool} (h : equalIn T A 10000 t x y = some r) (hx : VRel φ x x') (hy : VRel φ y y') :
    (Op.equal t x' y').run P w = .ok r w := equalIn_run H R 10000 t x y x' y' r h hx hy

end
end Go.Abs
