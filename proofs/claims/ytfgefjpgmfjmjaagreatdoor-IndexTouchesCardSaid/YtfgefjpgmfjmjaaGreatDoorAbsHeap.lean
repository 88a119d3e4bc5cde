/- Stores, new rows, other objects: the relation is kept. -/
import Derived.Test.YtfgefjpgmfjmjaaGreatDoorAbsRel
import Derived.Laws.Sem
import Derived.Laws.World
import Derived.Laws.Cells
namespace Go.Abs
open Go.RowKit (Below)

section
variable {B : Nat} {Q : List Nat} {w₀ : World} {φ : Inj} {A : AHeap} {w : World}

theorem one_cell {φ : Inj} {a : AV} {v : Value} (h : VRel φ a v) (ho : a.one = true) : v.oneCell' = true := by
  cases a <;> simp only [VRel] at h <;> simp [AV.one] at ho
  all_goals first
    | (subst h; rfl)
    | (obtain ⟨t, rfl, _⟩ := h; rfl)
    | (obtain ⟨N, d, off, _, _, rfl⟩ := h; rfl)
    | (obtain ⟨N, d, _, rfl⟩ := h; rfl)
    | (obtain ⟨x, y, rfl, _⟩ := h; rfl)
    | (obtain ⟨g, a', c', rfl, _⟩ := h; rfl)

theorem Rel.forget (R : Rel B w₀ Q φ A w) {objs : Tree AObj} {cls : Tree (List Nat)}
    (ho : ∀ b, objs.get b = A.objs.get b ∨ objs.get b = none)
    (hc : ∀ b c lo hi cs e, objs.get b = some (.row c lo hi cs e true) → ∃ ms, cls.get c = some ms ∧ b ∈ ms) :
    Rel B w₀ Q φ ⟨objs, A.next, cls⟩ w := by
  have up : ∀ b o, objs.get b = some o → A.objs.get b = some o := by
    intro b o h
    rcases ho b with e | e
    · rw [← e]; exact h
    · rw [e] at h; cases h
  refine ⟨R.below, R.base, ?_, R.bound, fun b o N d h => R.obj b o N d (up b o h), fun b o N d h => R.own b o N d (up b o h), ?_, ?_, R.pend⟩
  · intro b hb
    have := R.fresh b hb
    refine ⟨this.1, ?_⟩
    show objs.get b = none
    rcases ho b with e | e
    · rw [e]; exact this.2
    · exact e
  · intro b₁ b₂ o₁ o₂ N d₁ d₂ hne h1 h2 g1 g2
    exact R.sep b₁ b₂ o₁ o₂ N d₁ d₂ hne h1 h2 (up _ _ g1) (up _ _ g2)
  · intro b c lo hi cs e h
    exact ⟨(R.mem b c lo hi cs e (up _ _ h)).1, hc b c lo hi cs e h⟩

/-! Pruning -/

theorem prune_nil (objs : Tree AObj) (keep p : Nat) : prune objs keep p [] = objs := rfl
theorem prune_cons (objs : Tree AObj) (keep p m : Nat) (r : List Nat) :
    prune objs keep p (m :: r) = prune (bif Nat.beq m keep then objs else match objs.get m with
      | some (.row _ _ hi _ _ _) => bif Nat.ble hi p then objs else objs.put m none
      | _ => objs) keep p r := rfl

theorem prune_get (keep p : Nat) (l : List Nat) : ∀ (objs : Tree AObj) (b : Nat), (prune objs keep p l).get b = objs.get b ∨ (prune objs keep p l).get b = none := by
  induction l with
  | nil => intro objs b; exact .inl rfl
  | cons m r ih =>
    intro objs b
    rw [prune_cons]
    generalize hobjs : (bif Nat.beq m keep then objs else match objs.get m with
      | some (.row _ _ hi _ _ _) => bif Nat.ble hi p then objs else objs.put m none
      | _ => objs) = objs'
    have key : objs'.get b = objs.get b ∨ objs'.get b = none := by
      subst hobjs
      cases Nat.beq m keep with
      | true => exact .inl rfl
      | false =>
        simp only [cond_false]
        split
        · rename_i c lo hi cs e wr hg
          cases Nat.ble hi p with
          | true => exact .inl rfl
          | false =>
            simp only [cond_false]
            by_cases hb : b = m
            · subst hb; right; exact Tree.get_put_self _ _ _
            · left; exact Tree.get_put_ne _ _ _ hb
        · exact .inl rfl
    rcases ih objs' b with h | h
    · rw [h]; exact key
    · exact .inr h

theorem prune_keep (keep p : Nat) (l : List Nat) : ∀ (objs : Tree AObj), (prune objs keep p l).get keep = objs.get keep := by
  induction l with
  | nil => intro objs; rfl
  | cons m r ih =>
    intro objs
    rw [prune_cons, ih]
    cases hm : Nat.beq m keep with
    | true => rfl
    | false =>
      have hne : keep ≠ m := by rintro rfl; simp [Nat.beq_refl] at hm
      simp only [cond_false]
      split
      · rename_i c lo hi cs e wr hg
        cases Nat.ble hi p with
        | true => rfl
        | false => simp only [cond_false]; exact Tree.get_put_ne _ _ _ hne
      · rfl

theorem prune_hi (keep p : Nat) (l : List Nat) : ∀ (objs : Tree AObj) (b c lo hi : Nat) (cs : Tree AV) (e : TypeId) (wr : Bool), b ∈ l → b ≠ keep →
    (prune objs keep p l).get b = some (.row c lo hi cs e wr) → hi ≤ p := by
  induction l with
  | nil => intro objs b c lo hi cs e wr hb; simp at hb
  | cons m r ih =>
    intro objs b c lo hi cs e wr hb hne hg
    rw [prune_cons] at hg
    by_cases hbr : b ∈ r
    · exact ih _ _ _ _ _ _ _ _ hbr hne hg
    · have hbm : b = m := by simpa [hbr] using hb
      subst hbm
      have hf : Nat.beq b keep = false := by
        cases h : Nat.beq b keep with
        | false => rfl
        | true => exact absurd (Nat.eq_of_beq_eq_true h) hne
      rw [hf] at hg
      simp only [cond_false] at hg
      have h1 := prune_get keep p r (match objs.get b with
        | some (.row _ _ hi _ _ _) => bif Nat.ble hi p then objs else objs.put b none
        | _ => objs) b
      rw [hg] at h1
      have h2 := h1.resolve_right (by simp)
      revert h2
      split
      · rename_i c' lo' hi' cs' e' wr' hg'
        cases hp : Nat.ble hi' p with
        | true =>
          simp only [cond_true]
          intro h2; rw [hg'] at h2; cases h2
          exact Nat.le_of_ble_eq_true hp
        | false =>
          simp only [cond_false]
          intro h2; rw [Tree.get_put_self] at h2; cases h2
      · rename_i hn
        intro h2
        exact absurd h2.symm (hn _ _ _ _ _ _)

theorem stay_mem (keep p : Nat) (l : List Nat) (objs : Tree AObj) (b : Nat) (hb : b ∈ l) (h : b = keep ∨ ∃ c lo hi cs e wr, objs.get b = some (.row c lo hi cs e wr) ∧ hi ≤ p) :
    b ∈ stay objs keep p l := by
  induction l with
  | nil => simp at hb
  | cons m r ih =>
    unfold stay
    by_cases hbm : b = m
    · subst hbm
      rcases h with rfl | ⟨c, lo, hi, cs, e, wr, hg, hp⟩
      · simp [Nat.beq_refl]
      · cases hk : Nat.beq b keep with
        | true => simp
        | false =>
          simp only [cond_false, hg]
          rw [Nat.ble_eq_true_of_le hp]; simp
    · have hbr : b ∈ r := by simpa [hbm] using hb
      have := ih hbr
      cases Nat.beq m keep with
      | true => simp only [cond_true]; exact List.mem_cons_of_mem _ this
      | false =>
        simp only [cond_false]
        split
        · rename_i hi _ _ _ _
          cases Nat.ble _ p with
          | true => simp only [cond_true]; exact List.mem_cons_of_mem _ this
          | false => simp only [cond_false]; exact this
        · exact this

/-- Forget all others of a class that reach beyond a place. -/
theorem Rel.pruned (R : Rel B w₀ Q φ A w) {c : Nat} {ms : List Nat} (hm : A.cls.get c = some ms) (keep p : Nat)
    (hk : ∀ c' lo hi cs e, A.objs.get keep = some (.row c' lo hi cs e true) → c' = c) :
    Rel B w₀ Q φ ⟨prune A.objs keep p ms, A.next, A.cls.put c (some (stay A.objs keep p ms))⟩ w := by
  refine R.forget (prune_get keep p ms A.objs) ?_
  intro b c' lo hi cs e hg
  have hg' : A.objs.get b = some (.row c' lo hi cs e true) := by
    rcases prune_get keep p ms A.objs b with h | h
    · rw [← h]; exact hg
    · rw [h] at hg; cases hg
  obtain ⟨_, ms', hm', hb⟩ := R.mem b c' lo hi cs e hg'
  by_cases hcc : c' = c
  · subst hcc
    rw [hm] at hm'; cases hm'
    refine ⟨_, Tree.get_put_self _ _ _, ?_⟩
    apply stay_mem _ _ _ _ _ hb
    by_cases hbk : b = keep
    · exact .inl hbk
    · exact .inr ⟨_, _, _, _, _, _, hg', prune_hi _ _ _ _ _ _ _ _ _ _ _ hb hbk hg⟩
  · exact ⟨ms', by rw [Tree.get_put_ne _ _ _ hcc]; exact hm', hb⟩

/-! One cell -/

theorem cell_of (R : Rel B w₀ Q φ A w) {b c lo hi : Nat} {cs : Tree AV} {e : TypeId} {wr : Bool} {N : Nat} {d : Int} (hg : A.objs.get b = some (.row c lo hi cs e wr)) (hφ : φ b = some (N, d))
    {o off : Nat} (hl : lo ≤ o) (hh : o < hi) (hoff : (off : Int) = (o : Int) + d) : ∃ v, w.cell? ⟨N, off, none⟩ = some v ∧ VRel φ (getTmp cs o) v := by
  obtain ⟨r, hr, rc, fr, rfl, _, h⟩ := R.obj b _ N d hg hφ
  obtain ⟨j, hj, v, hv, hrel⟩ := h o hl hh
  obtain rfl : j = off := by omega
  exact ⟨v, by simp [World.cell?, hr, hv], hrel⟩

theorem free_of (R : Rel B w₀ Q φ A w) {b c lo hi : Nat} {cs : Tree AV} {e : TypeId} {N : Nat} {d : Int} (hg : A.objs.get b = some (.row c lo hi cs e true)) (hφ : φ b = some (N, d))
    (off : Nat) (s : Option Nat) : w.frozen? ⟨N, off, s⟩ = false := by
  obtain ⟨r, hr, rc, fr, rfl, hf, h⟩ := R.obj b _ N d hg hφ
  obtain rfl := (hf rfl).1
  simp [World.frozen?, hr]

theorem heap_setCell_self (w : World) (N off : Nat) (v : Value) (cs : Array Value) (e : TypeId) (fr : Nat × Nat) (h : w.heap[N]? = some (.cells cs e fr)) :
    (w.setCell ⟨N, off, none⟩ v).heap[N]? = some (.cells (cs.setIfInBounds off v) e fr) := by
  simp [World.setCell, Array.getElem?_modify, h]

theorem getTmp_put (t : Tree AV) (k : Nat) (v : AV) (j : Nat) : getTmp (t.put k (some v)) j = if j = k then v else getTmp t j := by
  unfold getTmp
  rw [Tree.get_put]
  by_cases h : j = k
  · rw [if_pos h, if_pos h]; rfl
  · rw [if_neg h, if_neg h]

/-- No other row reaches beyond a place. -/
def Alone (φ : Inj) (A : AHeap) (b N p : Nat) : Prop :=
  ∀ b' d' c lo hi cs e, b' ≠ b → φ b' = some (N, d') → A.objs.get b' = some (.row c lo hi cs e true) → hi ≤ p

theorem Rel.setCell (R : Rel B w₀ Q φ A w) {b c lo hi : Nat} {cs : Tree AV} {e : TypeId} {N : Nat} {d : Int} (hg : A.objs.get b = some (.row c lo hi cs e true)) (hφ : φ b = some (N, d))
    {o off : Nat} (hl : lo ≤ o) (hh : o < hi) (hoff : (off : Int) = (o : Int) + d) {p : Nat} (hp : p ≤ o) (hal : Alone φ A b N p) {a : AV} {v : Value} (hv : VRel φ a v) :
    Rel B w₀ Q φ ⟨A.objs.put b (some (.row c lo hi (cs.put o (some a)) e true)), A.next, A.cls⟩ (w.setCell ⟨N, off, none⟩ v) := by
  obtain ⟨r, hr, rc, fr, rfl, hf, hrow⟩ := R.obj b _ N d hg hφ
  have hown := R.own b _ N d hg hφ rfl
  have hfr := R.fresh
  have gets : ∀ b' x, (A.objs.put b (some (.row c lo hi (cs.put o (some a)) e true))).get b' = some x → (b' = b ∧ x = .row c lo hi (cs.put o (some a)) e true) ∨ (b' ≠ b ∧ A.objs.get b' = some x) := by
    intro b' x h
    by_cases hb : b' = b
    · subst hb; rw [Tree.get_put_self] at h; cases h; exact .inl ⟨rfl, rfl⟩
    · rw [Tree.get_put_ne _ _ _ hb] at h; exact .inr ⟨hb, h⟩
  refine ⟨R.below.setCell hown v, ?_, ?_, ?_, ?_, ?_, ?_, ?_, R.pend⟩
  · have := R.base; simpa using this
  · intro b' hb'
    have hne : b' ≠ b := by
      rintro rfl
      have := (R.fresh b' hb').1; rw [hφ] at this; cases this
    exact ⟨(hfr b' hb').1, by show (A.objs.put b _).get b' = none; rw [Tree.get_put_ne _ _ _ hne]; exact (hfr b' hb').2⟩
  · intro b' N' d' h; have := R.bound b' N' d' h; simpa using this
  · intro b' x N' d' hgx hφ'
    rcases gets b' x hgx with ⟨rfl, rfl⟩ | ⟨hne, hgx'⟩
    · rw [hφ] at hφ'; cases hφ'
      refine ⟨_, heap_setCell_self w N off v rc e fr hr, _, fr, rfl, fun h => ⟨(hf h).1, by rw [Array.size_setIfInBounds]; exact (hf h).2⟩, ?_⟩
      intro i hil hih
      obtain ⟨j, hj, u, hu, hrel⟩ := hrow i hil hih
      refine ⟨j, hj, ?_⟩
      rw [getTmp_put]
      by_cases hio : i = o
      · subst hio
        obtain rfl : j = off := by omega
        rw [if_pos rfl]
        refine ⟨v, ?_, hv⟩
        have hlt : j < rc.size := by
          rcases Nat.lt_or_ge j rc.size with h | h
          · exact h
          · rw [Array.getElem?_eq_none h] at hu; cases hu
        simp [hlt]
      · rw [if_neg hio]
        refine ⟨u, ?_, hrel⟩
        rw [Array.getElem?_setIfInBounds_ne (by omega)]; exact hu
    · obtain ⟨y, hy, hyr⟩ := R.obj b' x N' d' hgx' hφ'
      by_cases hN : N' = N
      · subst hN
        rw [hr] at hy; cases hy
        refine ⟨_, heap_setCell_self w N' off v rc e fr hr, ?_⟩
        obtain ⟨hd, c', lo₁, hi₁, cs₁, e₁, lo₂, hi₂, cs₂, e₂, h1, h2⟩ := R.sep b b' _ x N' d d' (Ne.symm hne) hφ hφ' hg hgx' rfl
        subst h2
        have hhi := hal b' d' _ _ _ _ _ hne hφ' hgx'
        obtain ⟨cs', fr', he, hfr', hrow'⟩ := hyr
        cases he
        refine ⟨_, fr, rfl, fun h => ⟨(hfr' h).1, by rw [Array.size_setIfInBounds]; exact (hfr' h).2⟩, ?_⟩
        intro i hil hih
        obtain ⟨j, hj, u, hu, hrel⟩ := hrow' i hil hih
        refine ⟨j, hj, u, ?_, hrel⟩
        rw [Array.getElem?_setIfInBounds_ne (by omega)]; exact hu
      · refine ⟨y, ?_, hyr⟩
        rw [Below.heap_setCell _ _ _ _ hN]; exact hy
  · intro b' x N' d' hgx hφ' ho
    rcases gets b' x hgx with ⟨rfl, rfl⟩ | ⟨hne, hgx'⟩
    · rw [hφ] at hφ'; cases hφ'; exact hown
    · exact R.own b' x N' d' hgx' hφ' ho
  · intro b₁ b₂ o₁ o₂ N' d₁ d₂ hne h1 h2 g1 g2 ho
    rcases gets b₁ o₁ g1 with ⟨rfl, rfl⟩ | ⟨n1, g1'⟩
    · rcases gets b₂ o₂ g2 with ⟨rfl, rfl⟩ | ⟨n2, g2'⟩
      · exact absurd rfl hne
      · obtain ⟨hd, c', lo₁, hi₁, cs₁, e₁, lo₂, hi₂, cs₂, e₂, e1, e2⟩ := R.sep b₁ b₂ _ o₂ N' d₁ d₂ hne h1 h2 hg g2' rfl
        cases e1
        exact ⟨hd, _, _, _, _, _, _, _, _, _, rfl, e2⟩
    · rcases gets b₂ o₂ g2 with ⟨rfl, rfl⟩ | ⟨n2, g2'⟩
      · obtain ⟨hd, c', lo₁, hi₁, cs₁, e₁, lo₂, hi₂, cs₂, e₂, e1, e2⟩ := R.sep b₁ b₂ o₁ _ N' d₁ d₂ hne h1 h2 g1' hg ho
        cases e2
        exact ⟨hd, _, _, _, _, _, _, _, _, _, e1, rfl⟩
      · exact R.sep b₁ b₂ o₁ o₂ N' d₁ d₂ hne h1 h2 g1' g2' ho
  · intro b' c' lo' hi' cs' e' hgx
    rcases gets b' _ hgx with ⟨rfl, h⟩ | ⟨hne, hgx'⟩
    · cases h; exact R.mem b' c lo hi cs e hg
    · exact R.mem b' c' lo' hi' cs' e' hgx'


/-! Rows of cells -/

theorem setCells_nil (t : Tree AV) (o : Nat) : setCells t o [] = t := rfl
theorem setCells_cons (t : Tree AV) (o : Nat) (v : AV) (r : List AV) : setCells t o (v :: r) = setCells (t.put o (some v)) (o + 1) r := rfl
theorem allOne_cons {v : AV} {r : List AV} (h : allOne (v :: r) = true) : v.one = true ∧ allOne r = true := by
  have h' : sel v.one (allOne r) false = true := h
  cases hv : v.one with
  | true => rw [hv] at h'; exact ⟨rfl, h'⟩
  | false => rw [hv] at h'; cases h'

theorem addr_add (N off n : Nat) : (⟨N, off, none⟩ : Addr).add n = ⟨N, off + n, none⟩ := by
  unfold Addr.add
  split
  · rename_i h; subst h; rfl
  · rfl

/-- Some cells are stored, one behind the other. -/
theorem storeCells_run {P : Program} (vs : List AV) : ∀ {A : AHeap} {w : World} {b c lo hi : Nat} {cs : Tree AV} {e : TypeId} {N : Nat} {d : Int} {o off i : Nat} {p : Nat} {vs' : List Value},
    Rel B w₀ Q φ A w → A.objs.get b = some (.row c lo hi cs e true) → φ b = some (N, d) → lo ≤ o → o + vs.length ≤ hi → ((off + i : Nat) : Int) = (o : Int) + d → p ≤ o → Alone φ A b N p →
    allOne vs = true → LRel φ vs vs' →
    ∃ w', (storeCells ⟨N, off, none⟩ vs' i).run P w = .ok () w' ∧
      Rel B w₀ Q φ ⟨A.objs.put b (some (.row c lo hi (setCells cs o vs) e true)), A.next, A.cls⟩ w' := by
  induction vs with
  | nil =>
    intro A w b c lo hi cs e N d o off i p vs' R hg hφ hl hh hoff hp hal h1 hv
    simp only [LRel] at hv; subst hv
    refine ⟨w, rfl, ?_⟩
    rw [setCells_nil]
    have R' := R.forget (objs := A.objs.put b (some (.row c lo hi cs e true))) (cls := A.cls) (by
      intro b'
      by_cases hb : b' = b
      · subst hb; rw [Tree.get_put_self, hg]; exact .inl rfl
      · rw [Tree.get_put_ne _ _ _ hb]; exact .inl rfl) (by
      intro b' c' lo' hi' cs' e' hx
      by_cases hb : b' = b
      · subst hb; rw [Tree.get_put_self] at hx; cases hx; exact (R.mem _ _ _ _ _ _ hg).2
      · rw [Tree.get_put_ne _ _ _ hb] at hx; exact (R.mem _ _ _ _ _ _ hx).2)
    exact R'
  | cons v r ih =>
    intro A w b c lo hi cs e N d o off i p vs' R hg hφ hl hh hoff hp hal h1 hv
    simp only [LRel] at hv
    obtain ⟨x, y, rfl, hx, hy⟩ := hv
    obtain ⟨hv1, hr1⟩ := allOne_cons h1
    simp only [List.length_cons] at hh
    have hcell := cell_of R hg hφ hl (show o < hi by omega) hoff
    obtain ⟨u, hu, _⟩ := hcell
    have hfz := free_of R hg hφ (off + i) none
    have R1 := R.setCell hg hφ hl (show o < hi by omega) hoff hp hal hx
    have hal' : Alone φ ⟨A.objs.put b (some (.row c lo hi (cs.put o (some v)) e true)), A.next, A.cls⟩ b N p := by
      intro b' d' c' lo' hi' cs' e' hne hφ' hg'
      replace hg' : (A.objs.put b _).get b' = _ := hg'
      rw [Tree.get_put_ne _ _ _ hne] at hg'
      exact hal b' d' c' lo' hi' cs' e' hne hφ' hg'
    obtain ⟨w', hw', R2⟩ := ih (i := i + 1) (o := o + 1) (lo := lo) (hi := hi) (off := off) (d := d) (N := N) (p := p) (b := b) (c := c) (e := e) (cs := cs.put o (some v)) R1 (Tree.get_put_self _ _ _) hφ (by omega) (by omega) (by omega) (by omega) hal' hr1 hy
    refine ⟨w', ?_, ?_⟩
    · unfold storeCells
      simp only [Sem.run_bind, addr_add]
      rw [run_store _ _ _ _ _ (one_cell hx hv1), hu, hfz]
      simpa using hw'
    · rw [setCells_cons]
      have R3 := R2.forget (objs := A.objs.put b (some (.row c lo hi (setCells (cs.put o (some v)) (o + 1) r) e true))) (cls := A.cls) (by
        intro b'
        show _ = ((A.objs.put b _).put b _).get b' ∨ _
        by_cases hb : b' = b
        · subst hb; rw [Tree.get_put_self, Tree.get_put_self]; exact .inl rfl
        · rw [Tree.get_put_ne _ _ _ hb, Tree.get_put_ne _ _ _ hb, Tree.get_put_ne _ _ _ hb]; exact .inl rfl) (by
        intro b' c' lo' hi' cs' e' hx
        by_cases hb : b' = b
        · subst hb; rw [Tree.get_put_self] at hx; cases hx; exact (R.mem _ _ _ _ _ _ hg).2
        · rw [Tree.get_put_ne _ _ _ hb] at hx; exact (R.mem _ _ _ _ _ _ hx).2)
      exact R3

/-- A store of some cells, as the machine does it. -/
theorem store_run {P : Program} (R : Rel B w₀ Q φ A w) {b N : Nat} {d : Int} {o off : Nat} {vs : List AV} {vs' : List Value} {A' : AHeap} (hs : A.store b o vs = some A') (hφ : φ b = some (N, d))
    (hoff : (off : Int) = (o : Int) + d) (hv : LRel φ vs vs') : ∃ w', (storeCells ⟨N, off, none⟩ vs').run P w = .ok () w' ∧ Rel B w₀ Q φ A' w' := by
  obtain ⟨objs, next, cls⟩ := A
  simp only [AHeap.store] at hs
  split at hs
  · rename_i c lo hi cells elem hg
    cases h1 : Nat.ble lo o with
    | false => rw [h1] at hs; cases hs
    | true =>
      cases h2 : Nat.ble (Nat.add o vs.length) hi with
      | false => rw [h1, h2] at hs; cases hs
      | true =>
        cases h3 : allOne vs with
        | false => rw [h1, h2, h3] at hs; cases hs
        | true =>
          rw [h1, h2, h3] at hs
          replace hs : (match cls.get c with
            | some ms => some (mkHeap ((prune objs b o ms).put b (some (.row c lo hi (setCells cells o vs) elem true))) next (cls.put c (some (stay objs b o ms))))
            | none => none) = some A' := hs
          split at hs
          · rename_i ms hms
            rw [mkHeap_eq] at hs
            cases hs
            have R1 := R.pruned hms b o (by intro c' lo' hi' cs' e' hx; rw [show (AHeap.mk objs next cls).objs.get b = _ from hg] at hx; cases hx; rfl)
            have hg1 : (prune objs b o ms).get b = some (.row c lo hi cells elem true) := by rw [prune_keep]; exact hg
            have hal : Alone φ ⟨prune objs b o ms, next, cls.put c (some (stay objs b o ms))⟩ b N o := by
              intro b' d' c' lo' hi' cs' e' hne hφ' hg'
              replace hg' : (prune objs b o ms).get b' = _ := hg'
              have hg0 : objs.get b' = some (.row c' lo' hi' cs' e' true) := by
                rcases prune_get b o ms objs b' with h | h
                · rw [← h]; exact hg'
                · rw [h] at hg'; cases hg'
              obtain ⟨_, c₀, _, _, _, _, _, _, _, _, e1, e2⟩ := R.sep b b' _ _ N d d' (Ne.symm hne) hφ hφ' hg hg0 rfl
              cases e1; cases e2
              obtain ⟨_, ms', hm', hb'⟩ := R.mem b' _ _ _ _ _ hg0
              replace hm' : cls.get c = some ms' := hm'
              rw [hms] at hm'; cases hm'
              exact prune_hi _ _ _ _ _ _ _ _ _ _ _ hb' hne hg'
            exact storeCells_run vs (i := 0) R1 hg1 hφ (Nat.le_of_ble_eq_true h1) (Nat.le_of_ble_eq_true h2) (by simpa using hoff) (Nat.le_refl o) hal h3 hv
          · cases hs
  · cases hs

/-! Reading cells -/

theorem cellAt_some {lo hi : Nat} {cs : Tree AV} {o : Nat} {v : AV} (h : cellAt lo hi cs o = some v) : lo ≤ o ∧ o < hi ∧ getTmp cs o = v := by
  unfold cellAt at h
  cases h1 : Nat.ble lo o with
  | false => rw [h1] at h; simp at h
  | true =>
    cases h2 : Nat.blt o hi with
    | false => rw [h1, h2] at h; simp at h
    | true =>
      rw [h1, h2] at h
      simp only [Bool.and_self, cond_true] at h
      refine ⟨Nat.le_of_ble_eq_true h1, Nat.le_of_ble_eq_true h2, ?_⟩
      unfold getTmp; rw [h]; rfl

theorem cellsAt_zero (lo hi : Nat) (cs : Tree AV) (o : Nat) : cellsAt lo hi cs o 0 = some [] := rfl
theorem cellsAt_succ (lo hi : Nat) (cs : Tree AV) (o n : Nat) : cellsAt lo hi cs o (n + 1) = consOpt (cellAt lo hi cs o) (cellsAt lo hi cs (o + 1) n) := rfl
theorem consOpt_some {α : Type} {v : Option α} {l : Option (List α)} {r : List α} (h : consOpt v l = some r) : ∃ x y, v = some x ∧ l = some y ∧ r = x :: y := by
  cases v with
  | none => cases h
  | some x => cases l with
    | none => cases h
    | some y => cases h; exact ⟨x, y, rfl, rfl, rfl⟩

theorem cellsAt_rel (R : Rel B w₀ Q φ A w) {b c lo hi : Nat} {cs : Tree AV} {e : TypeId} {wr : Bool} {N : Nat} {d : Int} (hg : A.objs.get b = some (.row c lo hi cs e wr)) (hφ : φ b = some (N, d)) :
    ∀ (n o off : Nat) (l : List AV), (off : Int) = (o : Int) + d → cellsAt lo hi cs o n = some l →
      ∃ l', LRel φ l l' ∧ l'.length = n ∧ ∀ j v, l'[j]? = some v → w.cell? ⟨N, off + j, none⟩ = some v
  | 0, o, off, l, _, h => by
    rw [cellsAt_zero] at h; cases h
    exact ⟨[], by simp [LRel], rfl, by simp⟩
  | n + 1, o, off, l, hoff, h => by
    rw [cellsAt_succ] at h
    obtain ⟨x, y, h1, h2, rfl⟩ := consOpt_some h
    obtain ⟨hl, hh, rfl⟩ := cellAt_some h1
    obtain ⟨v, hv, hr⟩ := cell_of R hg hφ hl hh hoff
    obtain ⟨l', hl', hn, hc⟩ := cellsAt_rel R hg hφ n (o + 1) (off + 1) y (by omega) h2
    refine ⟨v :: l', by simp only [LRel]; exact ⟨v, l', rfl, hr, hl'⟩, by simp [hn], ?_⟩
    intro j u hj
    cases j with
    | zero => simp at hj; subst hj; exact hv
    | succ j =>
      have := hc j u (by simpa using hj)
      rw [show off + (j + 1) = off + 1 + j by omega]; exact this

theorem cells_run {P : Program} (R : Rel B w₀ Q φ A w) {b N : Nat} {d : Int} (hφ : φ b = some (N, d)) {o off n : Nat} {l : List AV} (hoff : (off : Int) = (o : Int) + d) (h : A.cells b o n = some l) :
    ∃ l', LRel φ l l' ∧ (loadCells ⟨N, off, none⟩ n).run P w = .ok l'.toArray w := by
  unfold AHeap.cells at h
  split at h
  · rename_i c lo hi cs e wr hg
    obtain ⟨l', hl', hn, hc⟩ := cellsAt_rel R hg hφ n o off l hoff h
    refine ⟨l', hl', ?_⟩
    have := run_loadCells_list (P := P) w ⟨N, off, none⟩ l' (by intro j v hj; rw [addr_add]; exact hc j v hj)
    rw [hn] at this; exact this
  · cases h

theorem cell_run {P : Program} (R : Rel B w₀ Q φ A w) {b N : Nat} {d : Int} (hφ : φ b = some (N, d)) {o off : Nat} {v : AV} (hoff : (off : Int) = (o : Int) + d) (h : A.cell b o = some v) :
    ∃ v', VRel φ v v' ∧ (load ⟨N, off, none⟩).run P w = .ok v' w := by
  unfold AHeap.cell at h
  split at h
  · rename_i c lo hi cs e wr hg
    obtain ⟨hl, hh, rfl⟩ := cellAt_some h
    obtain ⟨u, hu, hr⟩ := cell_of R hg hφ hl hh hoff
    exact ⟨u, hr, by rw [run_load, hu]⟩
  · cases h

/-! New rows -/

theorem getTmp_ofList (l : List AV) (i : Nat) (hi : i < l.length) : getTmp (Tree.ofList l 0 .leaf) i = l[i] := by
  unfold getTmp
  rw [Tree.get_ofList_zero, List.getElem?_eq_getElem hi]; rfl

theorem LRel.get {φ : Inj} : ∀ {l : List AV} {l' : List Value} (i : Nat) (_ : LRel φ l l') (hi : i < l.length), ∃ v, l'[i]? = some v ∧ VRel φ l[i] v
  | [], _, _, _, hi => by simp at hi
  | a :: l, l', 0, h, _ => by
    simp only [LRel] at h
    obtain ⟨x, y, rfl, hx, _⟩ := h
    exact ⟨x, rfl, hx⟩
  | a :: l, l', i + 1, h, hi => by
    simp only [LRel] at h
    obtain ⟨x, y, rfl, _, hy⟩ := h
    obtain ⟨v, hv, hr⟩ := LRel.get i hy (by simpa using hi)
    exact ⟨v, by simpa using hv, by simpa using hr⟩

/-- A new row; it may have more cells than are known of it. -/
theorem newRow_rel' (R : Rel B w₀ Q φ A w) {elem : TypeId} {cells : List AV} {cells' : Array Value} (h : ∀ i (hi : i < cells.length), ∃ v, cells'[i]? = some v ∧ VRel φ cells[i] v) :
    φ.le (φ.put A.next (w.heap.size, 0) cells'.size) ∧ (A.newRow elem cells).1 = A.next ∧ Rel B w₀ Q (φ.put A.next (w.heap.size, 0) cells'.size) (A.newRow elem cells).2 (w.alloc (.cells cells' elem)) := by
  have hle := Inj.le_put (φ := φ) (w.heap.size, 0) cells'.size (R.fresh A.next (Nat.le_refl _)).1
  obtain ⟨objs, next, cls⟩ := A
  refine ⟨hle, rfl, ?_⟩
  simp only [AHeap.newRow, mkHeap_eq]
  refine R.alloc (o := .row next 0 cells.length (Tree.ofList cells 0 .leaf) elem true) ?_ ?_ ?_
  · refine ⟨cells', (0, 0), rfl, fun _ => ⟨rfl, rfl⟩, fun i _ hi => ⟨i, by simp, ?_⟩⟩
    obtain ⟨v, hv, hr⟩ := h i hi
    refine ⟨v, hv, ?_⟩
    rw [getTmp_ofList _ _ hi]; exact hr.mono hle
  · intro c hc
    exact Tree.get_put_ne _ _ _ (by simp at hc; omega)
  · intro c lo hi cs e he
    cases he
    exact ⟨rfl, Tree.get_put_self _ _ _⟩
theorem newRow_rel (R : Rel B w₀ Q φ A w) {elem : TypeId} {cells : List AV} {cells' : Array Value} (h : LRel φ cells cells'.toList) :
    φ.le (φ.put A.next (w.heap.size, 0) cells'.size) ∧ (A.newRow elem cells).1 = A.next ∧ Rel B w₀ Q (φ.put A.next (w.heap.size, 0) cells'.size) (A.newRow elem cells).2 (w.alloc (.cells cells' elem)) :=
  newRow_rel' R fun i hi => by
    obtain ⟨v, hv, hr⟩ := LRel.get i h hi
    exact ⟨v, by simpa using hv, hr⟩

theorem new_rel (R : Rel B w₀ Q φ A w) {o : AObj} {r : Obj} (ho : ORel (φ.put A.next (w.heap.size, 0) 0) 0 0 o r) (hn : ∀ c lo hi cs e wr, o ≠ .row c lo hi cs e wr) :
    φ.le (φ.put A.next (w.heap.size, 0) 0) ∧ (A.new o).1 = A.next ∧ Rel B w₀ Q (φ.put A.next (w.heap.size, 0) 0) (A.new o).2 (w.alloc r) := by
  have hle := Inj.le_put (φ := φ) (w.heap.size, 0) 0 (R.fresh A.next (Nat.le_refl _)).1
  obtain ⟨objs, next, cls⟩ := A
  refine ⟨hle, rfl, ?_⟩
  simp only [AHeap.new, mkHeap_eq]
  exact R.alloc ho (fun _ _ => rfl) (fun c lo hi cs e he => absurd he (hn c lo hi cs e true))

/-- Another object in an object's place. -/
theorem Rel.setObj (R : Rel B w₀ Q φ A w) {b : Nat} {o o' : AObj} {N : Nat} {d : Int} {r' : Obj} (hg : A.objs.get b = some o) (hφ : φ b = some (N, d)) (hor : ORel φ d (φ.sz b) o' r')
    (hn : ∀ c lo hi cs e wr, o ≠ .row c lo hi cs e wr) (hn' : ∀ c lo hi cs e wr, o' ≠ .row c lo hi cs e wr) :
    Rel B w₀ Q φ (A.setObj b o') { w with heap := w.heap.setIfInBounds N r' } := by
  have ho : o.own = true := by cases o <;> first | rfl | exact absurd rfl (hn _ _ _ _ _ _)
  have hown := R.own b o N d hg hφ ho
  have hA : A.setObj b o' = ⟨A.objs.put b (some o'), A.next, A.cls⟩ := by cases A; simp only [AHeap.setObj, mkHeap_eq]
  rw [hA]
  have alone : ∀ b' x N' d', b' ≠ b → A.objs.get b' = some x → φ b' = some (N', d') → N' ≠ N := by
    rintro b' x N' d' hne hgx hφ' rfl
    obtain ⟨_, c, _, _, _, _, _, _, _, _, e1, _⟩ := R.sep b b' o x N' d d' (Ne.symm hne) hφ hφ' hg hgx ho
    exact hn _ _ _ _ _ _ e1
  have gets : ∀ b' x, (A.objs.put b (some o')).get b' = some x → (b' = b ∧ x = o') ∨ (b' ≠ b ∧ A.objs.get b' = some x) := by
    intro b' x h
    by_cases hb : b' = b
    · subst hb; rw [Tree.get_put_self] at h; cases h; exact .inl ⟨rfl, rfl⟩
    · rw [Tree.get_put_ne _ _ _ hb] at h; exact .inr ⟨hb, h⟩
  have hNlt := R.bound b N d hφ
  refine ⟨?_, ?_, ?_, ?_, ?_, ?_, ?_, ?_, R.pend⟩
  · refine R.below.trans ⟨rfl, rfl, rfl, by simp, fun k hk => ?_⟩
    show (w.heap.setIfInBounds N r')[k]? = _
    rw [Array.getElem?_setIfInBounds_ne (by omega)]
  · have := R.base; simpa using this
  · intro b' hb'
    have hne : b' ≠ b := by rintro rfl; have := (R.fresh b' hb').1; rw [hφ] at this; cases this
    exact ⟨(R.fresh b' hb').1, by show (A.objs.put b _).get b' = none; rw [Tree.get_put_ne _ _ _ hne]; exact (R.fresh b' hb').2⟩
  · intro b' N' d' h; have := R.bound b' N' d' h; simpa using this
  · intro b' x N' d' hgx hφ'
    rcases gets b' x hgx with ⟨rfl, rfl⟩ | ⟨hne, hgx'⟩
    · rw [hφ] at hφ'; cases hφ'
      exact ⟨r', by simp [hNlt], hor⟩
    · obtain ⟨y, hy, hyr⟩ := R.obj b' x N' d' hgx' hφ'
      have := alone b' x N' d' hne hgx' hφ'
      refine ⟨y, ?_, hyr⟩
      show (w.heap.setIfInBounds N r')[N']? = _
      rw [Array.getElem?_setIfInBounds_ne (by omega)]; exact hy
  · intro b' x N' d' hgx hφ' hx
    rcases gets b' x hgx with ⟨rfl, rfl⟩ | ⟨hne, hgx'⟩
    · rw [hφ] at hφ'; cases hφ'; exact hown
    · exact R.own b' x N' d' hgx' hφ' hx
  · intro b₁ b₂ o₁ o₂ N' d₁ d₂ hne h1 h2 g1 g2 hx
    rcases gets b₁ o₁ g1 with ⟨rfl, rfl⟩ | ⟨n1, g1'⟩
    · rcases gets b₂ o₂ g2 with ⟨rfl, rfl⟩ | ⟨n2, g2'⟩
      · exact absurd rfl hne
      · rw [hφ] at h1; cases h1
        exact absurd rfl (alone b₂ o₂ N d₂ n2 g2' h2)
    · rcases gets b₂ o₂ g2 with ⟨rfl, rfl⟩ | ⟨n2, g2'⟩
      · rw [hφ] at h2; cases h2
        exact absurd rfl (alone b₁ o₁ N d₁ n1 g1' h1)
      · exact R.sep b₁ b₂ o₁ o₂ N' d₁ d₂ hne h1 h2 g1' g2' hx
  · intro b' c' lo' hi' cs' e' hgx
    rcases gets b' _ hgx with ⟨rfl, h⟩ | ⟨hne, hgx'⟩
    · exact absurd h.symm (hn' _ _ _ _ _ _)
    · exact R.mem b' c' lo' hi' cs' e' hgx'

end
end Go.Abs
