/- append, copy, and what else is built in. -/
import Derived.Test.YtfgefjpgmfjmjaaGreatDoorAbsMap
import Derived.Laws.Append
namespace Go.Abs
open Go.RowKit (Below)

section
variable {T : Tabs} {P : Program} {B : Nat} {Q : List Nat} {w₀ w : World} {φ : Inj} {A A' : AHeap}

/-- In-place growth: a new name for a row, longer than the old ones. -/
theorem Rel.alias (R : Rel B w₀ Q φ A w) {b c lo hi : Nat} {cs : Tree AV} {e : TypeId} {N : Nat} {d : Int} (hg : A.objs.get b = some (.row c lo hi cs e true)) (hφ : φ b = some (N, d))
    {o p n : Nat} {ms : List Nat} (hms : A.cls.get c = some ms) (hlo : lo ≤ o) (hop : o ≤ p) (hod : (0 : Int) ≤ (o : Int) + d) (hph : p ≤ hi) (hn : ((p + n : Nat) : Int) + d ≤ (φ.sz b : Nat)) {new : Tree AV}
    (hnew : ∀ i, i < p → getTmp new i = getTmp cs i) (hrest : ∀ i, p ≤ i → i < p + n → getTmp new i = .any) :
    Rel B w₀ Q (φ.put A.next (N, d) (φ.sz b)) ⟨(prune A.objs A.next p ms).put A.next (some (.row c o (p + n) new e true)), A.next + 1, A.cls.put c (some (A.next :: stay A.objs A.next p ms))⟩ w := by
  have hfr := R.fresh A.next (Nat.le_refl _)
  have hle : φ.le (φ.put A.next (N, d) (φ.sz b)) := Inj.le_put _ _ hfr.1
  have up : ∀ b' x, (prune A.objs A.next p ms).get b' = some x → A.objs.get b' = some x := by
    intro b' x h
    rcases prune_get A.next p ms A.objs b' with e | e
    · rw [← e]; exact h
    · rw [e] at h; cases h
  have gets : ∀ b' x, ((prune A.objs A.next p ms).put A.next (some (.row c o (p + n) new e true))).get b' = some x → (b' = A.next ∧ x = .row c o (p + n) new e true) ∨ (b' ≠ A.next ∧ A.objs.get b' = some x ∧ (prune A.objs A.next p ms).get b' = some x) := by
    intro b' x h
    by_cases hb : b' = A.next
    · subst hb; rw [Tree.get_put_self] at h; cases h; exact .inl ⟨rfl, rfl⟩
    · rw [Tree.get_put_ne _ _ _ hb] at h; exact .inr ⟨hb, up _ _ h, h⟩
  obtain ⟨r, hr, rc, fr, rfl, hf, hrow⟩ := R.obj b _ N d hg hφ
  refine ⟨R.below, R.base, ?_, ?_, ?_, ?_, ?_, ?_, ?_⟩
  · intro b' hb'
    have hb'' : A.next + 1 ≤ b' := hb'
    have hne : b' ≠ A.next := by omega
    refine ⟨by rw [Inj.put_ne _ _ _ hne]; exact (R.fresh b' (by omega)).1, ?_⟩
    show ((prune A.objs A.next p ms).put A.next _).get b' = none
    rw [Tree.get_put_ne _ _ _ hne]
    rcases prune_get A.next p ms A.objs b' with e | e
    · rw [e]; exact (R.fresh b' (by omega)).2
    · exact e
  · intro b' N' d' h
    by_cases hne : b' = A.next
    · subst hne; rw [Inj.put_self] at h; cases h; exact R.bound b N d hφ
    · rw [Inj.put_ne _ _ _ hne] at h; exact R.bound b' N' d' h
  · intro b' x N' d' hx h
    rcases gets b' x hx with ⟨rfl, rfl⟩ | ⟨hne, hx', _⟩
    · rw [Inj.put_self] at h; cases h
      refine ⟨_, hr, rc, fr, rfl, fun _ => ⟨(hf rfl).1, by rw [Inj.sz_self]; exact (hf rfl).2⟩, ?_⟩
      intro i hil hih
      by_cases hip : i < p
      · obtain ⟨j, hj, v, hv, hrel⟩ := hrow i (by omega) (by omega)
        exact ⟨j, hj, v, hv, by rw [hnew i hip]; exact hrel.mono hle⟩
      · have hsz := (hf rfl).2
        -- a place behind those known: it is there
        have hpos : (0 : Int) ≤ (i : Int) + d := by omega
        refine ⟨((i : Int) + d).toNat, by omega, ?_⟩
        have hlt : ((i : Int) + d).toNat < rc.size := by rw [hsz]; omega
        exact ⟨rc[((i : Int) + d).toNat], by rw [Array.getElem?_eq_getElem hlt], by rw [hrest i (by omega) hih]; simp only [VRel]⟩
    · rw [Inj.put_ne _ _ _ hne] at h
      obtain ⟨y, hy, hyr⟩ := R.obj b' x N' d' hx' h
      exact ⟨y, hy, by rw [Inj.sz_ne _ _ _ hne]; exact hyr.mono hle⟩
  · intro b' x N' d' hx h ho
    rcases gets b' x hx with ⟨rfl, rfl⟩ | ⟨hne, hx', _⟩
    · rw [Inj.put_self] at h; cases h; exact R.own b _ N d hg hφ rfl
    · rw [Inj.put_ne _ _ _ hne] at h; exact R.own b' x N' d' hx' h ho
  · intro b₁ b₂ o₁ o₂ N' d₁ d₂ hne h1 h2 g1 g2 ho
    rcases gets b₁ o₁ g1 with ⟨rfl, rfl⟩ | ⟨n1, g1', _⟩
    · rcases gets b₂ o₂ g2 with ⟨rfl, rfl⟩ | ⟨n2, g2', _⟩
      · exact absurd rfl hne
      · rw [Inj.put_self] at h1; cases h1
        rw [Inj.put_ne _ _ _ n2] at h2
        by_cases hb : b₂ = b
        · subst hb
          rw [hφ] at h2; cases h2
          rw [hg] at g2'; cases g2'
          exact ⟨rfl, _, _, _, _, _, _, _, _, _, rfl, rfl⟩
        · obtain ⟨hd, c', l1, i1, s1, e1, l2, i2, s2, e2, q1, q2⟩ := R.sep b b₂ _ o₂ _ _ d₂ (Ne.symm hb) hφ h2 hg g2' rfl
          cases q1
          exact ⟨hd, _, _, _, _, _, _, _, _, _, rfl, q2⟩
    · rw [Inj.put_ne _ _ _ n1] at h1
      rcases gets b₂ o₂ g2 with ⟨rfl, rfl⟩ | ⟨n2, g2', _⟩
      · rw [Inj.put_self] at h2; cases h2
        by_cases hb : b₁ = b
        · subst hb
          rw [hφ] at h1; cases h1
          rw [hg] at g1'; cases g1'
          exact ⟨rfl, _, _, _, _, _, _, _, _, _, rfl, rfl⟩
        · obtain ⟨hd, c', l1, i1, s1, e1, l2, i2, s2, e2, q1, q2⟩ := R.sep b₁ b o₁ _ _ d₁ _ hb h1 hφ g1' hg ho
          cases q2
          exact ⟨hd, _, _, _, _, _, _, _, _, _, q1, rfl⟩
      · rw [Inj.put_ne _ _ _ n2] at h2
        exact R.sep b₁ b₂ o₁ o₂ N' d₁ d₂ hne h1 h2 g1' g2' ho
  · intro b' c' lo' hi' cs' e' hx
    rcases gets b' _ hx with ⟨rfl, h⟩ | ⟨hne, hx', hpr⟩
    · cases h
      exact ⟨by have := (R.mem b _ _ _ _ _ hg).1; show c < A.next + 1; omega, _, Tree.get_put_self _ _ _, by simp⟩
    · obtain ⟨hlt, ms', hm', hb⟩ := R.mem b' c' lo' hi' cs' e' hx'
      refine ⟨by show c' < A.next + 1; omega, ?_⟩
      by_cases hcc : c' = c
      · subst hcc
        rw [hms] at hm'; cases hm'
        refine ⟨_, Tree.get_put_self _ _ _, List.mem_cons_of_mem _ ?_⟩
        exact stay_mem _ _ _ _ _ hb (.inr ⟨_, _, _, _, _, _, hx', prune_hi _ _ _ _ _ _ _ _ _ _ _ hb hne hpr⟩)
      · exact ⟨ms', by rw [Tree.get_put_ne _ _ _ hcc]; exact hm', hb⟩
  · intro b hb
    obtain ⟨h1, h2⟩ := R.pend b hb
    exact ⟨by rw [Inj.put_ne _ _ _ (by omega)]; exact h1, by show b < A.next + 1; omega⟩

/-! What is appended -/

theorem byteCells_rel : ∀ (l : List UInt8), LRel φ ((l.map UInt8.toNat).map fun (n : Nat) => AV.int .u8 n) (l.map fun b => Value.int .u8 b.toNat)
  | [] => by simp only [List.map_nil, LRel]
  | b :: l => by
    simp only [List.map_cons, LRel]
    exact ⟨_, _, rfl, by simp only [VRel], byteCells_rel l⟩
theorem strCells_rel (u : ByteArray) (k : Nat) : LRel φ ((takeB k (bytesOf u)).map fun (n : Nat) => AV.int .u8 n) ((u.extract 0 k).data.map fun b => Value.int .u8 b.toNat).toList := by
  have h : takeB k (bytesOf u) = bytesOf (u.extract 0 k) := by
    rw [bytesOf_extract, dropN_eq]; rfl
  rw [h, Array.toList_map]
  exact byteCells_rel _

theorem cellsAt_length {lo hi : Nat} {cs : Tree AV} : ∀ (n o : Nat) {l : List AV}, cellsAt lo hi cs o n = some l → l.length = n
  | 0, o, l, h => by rw [cellsAt_zero] at h; cases h; rfl
  | n + 1, o, l, h => by
    rw [cellsAt_succ] at h
    obtain ⟨x, y, _, hy, rfl⟩ := consOpt_some h
    rw [List.length_cons, cellsAt_length n (o + 1) hy]
theorem cells_length {b o n : Nat} {l : List AV} (h : A.cells b o n = some l) : l.length = n := by
  unfold AHeap.cells at h
  split at h
  · exact cellsAt_length _ _ h
  · cases h

/-- The first cells of a row, as the machine reads them. -/
theorem sliceCells_run (R : Rel B w₀ Q φ A w) {size n b o len cap es : Nat} {ex : Bool} {l : List AV} {x' : Value} (hl : A.cells b o (n * size) = some l) (hx : VRel φ (.slc b o len cap ex es) x') (hn : n ≤ len) :
    ∃ l' : List Value, LRel φ l l' ∧ (Builtin.firstCells size n x').run P w = .ok l'.toArray w := by
  simp only [VRel] at hx
  obtain ⟨a, c, rfl, h1, h2, h3, h4⟩ := hx
  by_cases hc : c = 0
  · have hn : n = 0 := by omega
    subst hn
    have hlen := cells_length hl
    rw [Nat.zero_mul] at hlen
    obtain rfl : l = [] := List.eq_nil_of_length_eq_zero hlen
    exact ⟨[], by simp only [LRel], by simp [Builtin.firstCells, loadCells, loadCellsFrom]⟩
  · obtain ⟨N, d, off, f, e, rfl, _⟩ := h4 hc
    exact cells_run (P := P) R f e hl

theorem appended_run (R : Rel B w₀ Q φ A w) {size n : Nat} {x : AV} {x' : Value} {new : List AV} (h : appended A size x = some (n, new)) (hx : VRel φ x x') :
    new.length = n * size ∧ (Builtin.lenOf x').run P w = .ok n w ∧ ∃ new' : List Value, LRel φ new new' ∧ (Builtin.firstCells size n x').run P w = .ok new'.toArray w := by
  unfold appended at h
  split at h
  · cases h
    simp only [VRel] at hx; subst hx
    exact ⟨by simp, rfl, [], by simp only [LRel], rfl⟩
  · rename_i b o m cap ex es
    split at h
    · rename_i l hl
      cases h
      refine ⟨cells_length hl, ?_, sliceCells_run R hl hx (Nat.le_refl _)⟩
      simp only [VRel] at hx
      obtain ⟨a, c, rfl, _⟩ := hx
      rfl
    · cases h
  · rename_i s
    cases hb : Nat.beq size 1 with
    | false => rw [hb] at h; cases h
    | true =>
      rw [hb] at h
      cases h
      have hsz := Nat.eq_of_beq_eq_true hb
      subst hsz
      simp only [VRel] at hx
      obtain ⟨u, rfl, rfl⟩ := hx
      refine ⟨by rw [List.length_map, Nat.mul_one], by rw [bytesOf_length]; rfl, ?_⟩
      have := strCells_rel (φ := φ) u (bytesOf u).length
      rw [takeB_eq, List.take_length] at this
      exact ⟨_, this, by simp only [Builtin.firstCells, Sem.run_pure, Array.toArray_toList]⟩
  · cases h

/-! A row may be told anew by cells that are the same. -/
theorem Rel.recell (R : Rel B w₀ Q φ A w) {b c lo hi : Nat} {cs cs' : Tree AV} {e : TypeId} {wr : Bool} (hg : A.objs.get b = some (.row c lo hi cs e wr)) (hc : ∀ i, getTmp cs' i = getTmp cs i) {objs : Tree AObj}
    (ho : ∀ b', objs.get b' = if b' = b then some (.row c lo hi cs' e wr) else A.objs.get b') : Rel B w₀ Q φ ⟨objs, A.next, A.cls⟩ w := by
  have gets : ∀ b' x, objs.get b' = some x → (b' = b ∧ x = .row c lo hi cs' e wr) ∨ (b' ≠ b ∧ A.objs.get b' = some x) := by
    intro b' x h
    rw [ho] at h
    by_cases hb : b' = b
    · subst hb; rw [if_pos rfl] at h; cases h; exact .inl ⟨rfl, rfl⟩
    · rw [if_neg hb] at h; exact .inr ⟨hb, h⟩
  refine ⟨R.below, R.base, ?_, R.bound, ?_, ?_, ?_, ?_, R.pend⟩
  · intro b' hb'
    refine ⟨(R.fresh b' hb').1, ?_⟩
    show objs.get b' = none
    rw [ho]
    by_cases hb : b' = b
    · subst hb; rw [(R.fresh b' hb').2] at hg; cases hg
    · rw [if_neg hb]; exact (R.fresh b' hb').2
  · intro b' x N d hx hφ
    rcases gets b' x hx with ⟨rfl, rfl⟩ | ⟨_, hx'⟩
    · obtain ⟨r, hr, rc, fr, rfl, hf, hrow⟩ := R.obj b' _ N d hg hφ
      refine ⟨_, hr, rc, fr, rfl, hf, fun i hl hh => ?_⟩
      rw [hc i]; exact hrow i hl hh
    · exact R.obj b' x N d hx' hφ
  · intro b' x N d hx hφ hown
    rcases gets b' x hx with ⟨rfl, rfl⟩ | ⟨_, hx'⟩
    · exact R.own b' _ N d hg hφ hown
    · exact R.own b' x N d hx' hφ hown
  · intro b₁ b₂ o₁ o₂ N d₁ d₂ hne h1 h2 g1 g2 hown
    rcases gets b₁ o₁ g1 with ⟨rfl, rfl⟩ | ⟨_, g1'⟩
    · rcases gets b₂ o₂ g2 with ⟨rfl, rfl⟩ | ⟨_, g2'⟩
      · exact absurd rfl hne
      · obtain ⟨q, c', l1, i1, s1, e1, l2, i2, s2, e2, q1, q2⟩ := R.sep b₁ b₂ _ o₂ N d₁ d₂ hne h1 h2 hg g2' hown
        cases q1
        exact ⟨q, _, _, _, _, _, _, _, _, _, rfl, q2⟩
    · rcases gets b₂ o₂ g2 with ⟨rfl, rfl⟩ | ⟨_, g2'⟩
      · obtain ⟨q, c', l1, i1, s1, e1, l2, i2, s2, e2, q1, q2⟩ := R.sep b₁ b₂ o₁ _ N d₁ d₂ hne h1 h2 g1' hg hown
        cases q2
        exact ⟨q, _, _, _, _, _, _, _, _, _, q1, rfl⟩
      · exact R.sep b₁ b₂ o₁ o₂ N d₁ d₂ hne h1 h2 g1' g2' hown
  · intro b' c' lo' hi' cs₁ e₁ hx
    rcases gets b' _ hx with ⟨rfl, h⟩ | ⟨_, hx'⟩
    · cases h; exact R.mem b' _ _ _ _ _ hg
    · exact R.mem b' _ _ _ _ _ hx'

theorem getTmp_setCells (vs : List AV) : ∀ (t : Tree AV) (p i : Nat), getTmp (setCells t p vs) i = if p ≤ i ∧ i < p + vs.length then vs.getD (i - p) .any else getTmp t i := by
  induction vs with
  | nil =>
    intro t p i
    rw [setCells_nil, if_neg (by simp)]
  | cons v r ih =>
    intro t p i
    rw [setCells_cons, ih, getTmp_put]
    simp only [List.length_cons]
    by_cases h : i = p
    · subst h
      rw [if_neg (by omega), if_pos rfl, if_pos (by omega)]
      simp
    · by_cases h2 : p + 1 ≤ i ∧ i < p + 1 + r.length
      · rw [if_pos h2, if_pos (by omega)]
        obtain ⟨k, rfl⟩ : ∃ k, i = p + 1 + k := ⟨i - (p + 1), by omega⟩
        rw [show p + 1 + k - (p + 1) = k by omega, show p + 1 + k - p = k + 1 by omega]
        simp
      · rw [if_neg h2, if_neg h, if_neg (by omega)]

/-! A new row that goes on an old one, known only from some place on. -/
theorem Rel.allocIn (R : Rel B w₀ Q φ A w) {c lo hi n : Nat} {cs : Tree AV} {e : TypeId} {r : Obj} {d : Int} {ms : List Nat} {cls : Tree (List Nat)} (hlt : c < A.next) (hms : A.cls.get c = some ms) (hc1 : cls.get c = some (A.next :: ms)) (hc2 : ∀ c', c' ≠ c → cls.get c' = A.cls.get c')
    (ho : ORel (φ.put A.next (w.heap.size, d) n) d n (.row c lo hi cs e true) r) :
    Rel B w₀ Q (φ.put A.next (w.heap.size, d) n) ⟨A.objs.put A.next (some (.row c lo hi cs e true)), A.next + 1, cls⟩ (w.alloc r) := by
  have hfr := R.fresh A.next (Nat.le_refl _)
  have hle : φ.le (φ.put A.next (w.heap.size, d) n) := Inj.le_put _ _ hfr.1
  refine ⟨R.below.alloc R.base _, ?_, ?_, ?_, ?_, ?_, ?_, ?_, ?_⟩
  · have := R.base; simp; omega
  · intro b hb
    have hb' : A.next + 1 ≤ b := hb
    have hne : b ≠ A.next := by omega
    refine ⟨?_, ?_⟩
    · rw [Inj.put_ne _ _ _ hne]; exact (R.fresh b (by omega)).1
    · show (A.objs.put A.next _).get b = none
      rw [Tree.get_put_ne _ _ _ hne]; exact (R.fresh b (by omega)).2
  · intro b N d hb
    by_cases hne : b = A.next
    · subst hne; rw [Inj.put_self] at hb; cases hb; simp
    · rw [Inj.put_ne _ _ _ hne] at hb
      have := R.bound b N d hb; simp; omega
  · intro b x N d hg hb
    replace hg : (A.objs.put A.next _).get b = some x := hg
    by_cases hne : b = A.next
    · subst hne
      rw [Tree.get_put_self] at hg; cases hg
      rw [Inj.put_self] at hb; cases hb
      exact ⟨r, by rw [heap_push]; simp, by rw [Inj.sz_self]; exact ho⟩
    · rw [Tree.get_put_ne _ _ _ hne] at hg
      rw [Inj.put_ne _ _ _ hne] at hb
      obtain ⟨y, hy, hr⟩ := R.obj b x N d hg hb
      refine ⟨y, ?_, by rw [Inj.sz_ne _ _ _ hne]; exact hr.mono hle⟩
      rw [heap_push, if_neg (by have := R.bound b N d hb; omega)]; exact hy
  · intro b x N d hg hb hown
    replace hg : (A.objs.put A.next _).get b = some x := hg
    by_cases hne : b = A.next
    · subst hne; rw [Inj.put_self] at hb; cases hb; exact R.base
    · rw [Tree.get_put_ne _ _ _ hne] at hg
      rw [Inj.put_ne _ _ _ hne] at hb
      exact R.own b x N d hg hb hown
  · intro b₁ b₂ o₁ o₂ N d₁ d₂ hne h1 h2 g1 g2 hown
    replace g1 : (A.objs.put A.next _).get b₁ = some o₁ := g1
    replace g2 : (A.objs.put A.next _).get b₂ = some o₂ := g2
    by_cases e1 : b₁ = A.next
    · subst e1
      rw [Inj.put_self] at h1; cases h1
      rw [Inj.put_ne _ _ _ (Ne.symm hne)] at h2
      have := R.bound b₂ _ _ h2; omega
    · by_cases e2 : b₂ = A.next
      · subst e2
        rw [Inj.put_self] at h2; cases h2
        rw [Inj.put_ne _ _ _ e1] at h1
        have := R.bound b₁ _ _ h1; omega
      · rw [Inj.put_ne _ _ _ e1] at h1; rw [Inj.put_ne _ _ _ e2] at h2
        rw [Tree.get_put_ne _ _ _ e1] at g1; rw [Tree.get_put_ne _ _ _ e2] at g2
        exact R.sep b₁ b₂ o₁ o₂ N d₁ d₂ hne h1 h2 g1 g2 hown
  · intro b c' lo hi cs e hg
    replace hg : (A.objs.put A.next _).get b = some _ := hg
    by_cases hne : b = A.next
    · subst hne
      rw [Tree.get_put_self] at hg; cases hg
      exact ⟨by show c < A.next + 1; omega, _, hc1, by simp⟩
    · rw [Tree.get_put_ne _ _ _ hne] at hg
      obtain ⟨hl, ms', hm, hb⟩ := R.mem b c' lo hi cs e hg
      refine ⟨by show c' < A.next + 1; omega, ?_⟩
      by_cases hcc : c' = c
      · subst hcc
        rw [hms] at hm; cases hm
        exact ⟨_, hc1, List.mem_cons_of_mem _ hb⟩
      · exact ⟨ms', by rw [← hm]; exact hc2 _ hcc, hb⟩
  · intro b hb
    obtain ⟨h1, h2⟩ := R.pend b hb
    exact ⟨by rw [Inj.put_ne _ _ _ (by omega)]; exact h1, by show b < A.next + 1; omega⟩

theorem zeroCells_size (z : Array Value) (n : Nat) : (Builtin.zeroCells z n).size = n * z.size := by simp [Builtin.zeroCells]

/-- The way that 'append' takes, once what is appended is known. -/
theorem append_same {st xt e ty : TypeId} {i : TypeInfo} {d : TypeDesc} (hst : P.underlying st = some (.slice e)) (hxt : P.underlying xt = some d) (hd : ∀ k, d ≠ .int k) (hi : P.info? e = some i)
    {x' : Value} {n : Nat} {base : Option Addr} {sLen sCap : Nat} {new' : List Value} {w' : World} (hn : (Builtin.lenOf x').run P w = .ok n w) (hnew : (Builtin.firstCells i.size n x').run P w = .ok new'.toArray w)
    (hfit : sLen + n ≤ sCap) (hst' : ∀ a, base = some a → (storeCells (a.add (sLen * i.size)) new').run P w = .ok () w') (hnone : base = none → w' = w) :
    (Builtin.append_ #[st, xt] ty #[.slice base sLen sCap, x']).run P w = .ok (.slice base (sLen + n) sCap) w' := by
  cases base with
  | none =>
    obtain rfl := hnone rfl
    simp [Builtin.append_, run_underlying hst, run_underlying hxt, sizeOf, typeInfo, hi, hn, hnew, hfit]
  | some a =>
    have := hst' a rfl
    simp [Builtin.append_, run_underlying hst, run_underlying hxt, sizeOf, typeInfo, hi, hn, hnew, hfit, this]

theorem append_new {st xt e ty : TypeId} {i : TypeInfo} {d : TypeDesc} {z : Value} (hst : P.underlying st = some (.slice e)) (hxt : P.underlying xt = some d) (hd : ∀ k, d ≠ .int k) (hi : P.info? e = some i) (hz : i.zero = some z)
    {x' : Value} {n : Nat} {base : Option Addr} {sLen sCap : Nat} {old' new' : List Value} (hn : (Builtin.lenOf x').run P w = .ok n w) (hnew : (Builtin.firstCells i.size n x').run P w.drew = .ok new'.toArray w.drew)
    (hold : (Builtin.firstCells i.size sLen (.slice base sLen sCap)).run P w.drew = .ok old'.toArray w.drew) (hfit : sCap < sLen + n) (hb : (sLen + n) * i.bytes ≤ rowBytes) (h63 : sLen + n ≤ 4611686018427387904) :
    ∃ k, (Builtin.append_ #[st, xt] ty #[.slice base sLen sCap, x']).run P w =
      .ok (.slice (some ⟨w.heap.size, 0, none⟩) (sLen + n) (sLen + n + k)) (w.drew.alloc (.cells ((old' ++ new').toArray ++ Builtin.zeroCells z.cells k) e)) := by
  have h1 : ¬ (sLen + n ≤ sCap) := by omega
  have h2 : ¬ (9223372036854775807 < (sLen : Int) + (n : Int)) := by omega
  have h3 : ¬ (281474976710656 < Builtin.nextslicecap (sLen + n) sCap * i.bytes) := by
    have := growslice_fits hfit hb; omega
  have hge : sLen + n ≤ grownCap w (sLen + n) sCap e := by simp [grownCap, Question.cut]
  refine ⟨grownCap w (sLen + n) sCap e - (sLen + n), ?_⟩
  have hcap : sLen + n + (grownCap w (sLen + n) sCap e - (sLen + n)) = grownCap w (sLen + n) sCap e := by omega
  rw [hcap]
  simp [Builtin.append_, run_underlying hst, run_underlying hxt, sizeOf, typeInfo, zeroValue, hi, hz, hn, hnew, hold, h1, h2, h3, Question.forced, newRow, grownCap]
  congr 2
  apply Array.ext'
  simp

theorem allOne_of_cellsAt {vs : List AV} (h : ∀ v ∈ vs, v.one = true) : allOne vs = true := by
  induction vs with
  | nil => rfl
  | cons v r ih =>
    show sel v.one (allOne r) false = true
    rw [h v (by simp)]
    exact ih fun u hu => h u (by simp [hu])

/-- The known beginning of a slice, cell for cell. -/
theorem prefix_run (R : Rel B w₀ Q φ A w) {b c lo hi : Nat} {cs : Tree AV} {e : TypeId} {N : Nat} {d : Int} (hg : A.objs.get b = some (.row c lo hi cs e true)) (hφ : φ b = some (N, d)) {o off : Nat} (hoff : (off : Int) = (o : Int) + d) (hlo : lo ≤ o) (m : Nat) (hm : o + m ≤ hi) :
    ∃ l' : List Value, l'.length = m ∧ (∀ i, i < m → ∃ v, l'[i]? = some v ∧ VRel φ (getTmp cs (o + i)) v) ∧ (loadCells ⟨N, off, none⟩ m).run P w = .ok l'.toArray w := by
  have hcell : ∀ i, i < m → ∃ v, w.cell? ⟨N, off + i, none⟩ = some v ∧ VRel φ (getTmp cs (o + i)) v := fun i hi => cell_of R hg hφ (by omega) (by omega) (by omega)
  refine ⟨(List.range m).map fun i => (w.cell? ⟨N, off + i, none⟩).getD undef, by simp, ?_, ?_⟩
  · intro i hi
    obtain ⟨v, hv, hr⟩ := hcell i hi
    exact ⟨v, by simp [List.getElem?_range hi, hv], hr⟩
  · have := run_loadCells_list (P := P) w ⟨N, off, none⟩ ((List.range m).map fun i => (w.cell? ⟨N, off + i, none⟩).getD undef) (by
      intro j v hj
      rw [addr_add]
      have hjm : j < m := by
        rcases Nat.lt_or_ge j m with h | h
        · exact h
        · rw [List.getElem?_eq_none (by simpa using h)] at hj; cases hj
      obtain ⟨u, hu, _⟩ := hcell j hjm
      rw [List.getElem?_map, List.getElem?_range hjm] at hj
      simp only [Option.map_some, hu, Option.getD_some, Option.some.injEq] at hj
      rw [hu, hj])
    simpa using this

/-- Some cells are stored behind the last known one of a row, which has room. -/
theorem extend_run (R : Rel B w₀ Q φ A w) {b c lo hi : Nat} {cs : Tree AV} {e : TypeId} {N : Nat} {d : Int} (hg : A.objs.get b = some (.row c lo hi cs e true)) (hφ : φ b = some (N, d))
    {ms : List Nat} (hms : A.cls.get c = some ms) {o off k : Nat} (hoff : (off : Int) = (o : Int) + d) (hlo : lo ≤ o) (hph : o + k ≤ hi) {vs : List AV} {vs' : List Value} (hone : allOne vs = true) (hv : LRel φ vs vs')
    (hsz : off + k + vs.length ≤ φ.sz b) :
    ∃ φ' w', φ.le φ' ∧ (storeCells ⟨N, off + k, none⟩ vs').run P w = .ok () w' ∧
      Rel B w₀ Q φ' ⟨(prune A.objs A.next (o + k) ms).put A.next (some (.row c o (o + k + vs.length) (setCells cs (o + k) vs) e true)), A.next + 1, A.cls.put c (some (A.next :: stay A.objs A.next (o + k) ms))⟩ w' ∧
      φ' A.next = some (N, d) ∧ φ'.sz A.next = φ.sz b := by
  have hfr := R.fresh A.next (Nat.le_refl _)
  have hle : φ.le (φ.put A.next (N, d) (φ.sz b)) := Inj.le_put _ _ hfr.1
  have R1 := R.alias hg hφ hms hlo (show o ≤ o + k by omega) (by omega) hph (n := vs.length) (by omega) (new := setCells cs (o + k) (List.replicate vs.length .any))
    (by intro i hi; rw [getTmp_setCells, if_neg (by omega)])
    (by intro i h1 h2; rw [getTmp_setCells, if_pos (by simp; omega)]; simp [List.getD_eq_getElem?_getD, List.getElem?_replicate]; split <;> rfl)
  have hal : Alone (φ.put A.next (N, d) (φ.sz b)) ⟨(prune A.objs A.next (o + k) ms).put A.next (some (.row c o (o + k + vs.length) (setCells cs (o + k) (List.replicate vs.length .any)) e true)), A.next + 1, A.cls.put c (some (A.next :: stay A.objs A.next (o + k) ms))⟩ A.next N (o + k) := by
    intro b' d' c' lo' hi' cs' e' hne hφ' hg'
    replace hg' : ((prune A.objs A.next (o + k) ms).put A.next _).get b' = _ := hg'
    rw [Tree.get_put_ne _ _ _ hne] at hg'
    rw [Inj.put_ne _ _ _ hne] at hφ'
    have hg0 : A.objs.get b' = some (.row c' lo' hi' cs' e' true) := by
      rcases prune_get A.next (o + k) ms A.objs b' with h | h
      · rw [← h]; exact hg'
      · rw [h] at hg'; cases hg'
    have hcc : c' = c := by
      by_cases hb : b' = b
      · subst hb; rw [hg] at hg0; cases hg0; rfl
      · obtain ⟨_, c₀, _, _, _, _, _, _, _, _, e1, e2⟩ := R.sep b b' _ _ N d d' (Ne.symm hb) hφ hφ' hg hg0 rfl
        cases e1; cases e2; rfl
    subst hcc
    obtain ⟨_, ms', hm', hb'⟩ := R.mem b' _ _ _ _ _ hg0
    rw [hms] at hm'; cases hm'
    exact prune_hi _ _ _ _ _ _ _ _ _ _ _ hb' hne hg'
  obtain ⟨w', hw, R2⟩ := storeCells_run (P := P) vs (i := 0) (off := off + k) (p := o + k) (o := o + k) R1 (Tree.get_put_self _ _ _) (Inj.put_self _ _ _ _) (by omega) (Nat.le_refl _) (by omega) (Nat.le_refl _) hal hone (hv.mono hle)
  refine ⟨_, w', hle, hw, ?_, Inj.put_self _ _ _ _, Inj.sz_self _ _ _ _⟩
  refine R2.recell (Tree.get_put_self _ _ _) (cs' := setCells cs (o + k) vs) ?_ ?_
  · intro i
    rw [getTmp_setCells, getTmp_setCells, getTmp_setCells, List.length_replicate]
    by_cases h : o + k ≤ i ∧ i < o + k + vs.length
    · rw [if_pos h, if_pos h]
    · rw [if_neg h, if_neg h, if_neg h]
  · intro b'
    show _ = if _ then _ else (((prune A.objs A.next (o + k) ms).put A.next _).put A.next _).get b'
    by_cases hb : b' = A.next
    · subst hb; rw [if_pos rfl, Tree.get_put_self]
    · rw [if_neg hb, Tree.get_put_ne _ _ _ hb, Tree.get_put_ne _ _ _ hb, Tree.get_put_ne _ _ _ hb]

theorem zeroFits_ok {e : TypeId} {i : TypeInfo} {m : Nat} (h : zeroFits T e m = true) (hi : T.ty.get e = some i) : ∃ z, i.zero = some z ∧ z.cells.size = m := by
  unfold zeroFits at h
  split at h
  · rename_i z hz
    have hl := Nat.eq_of_beq_eq_true h
    have hk := zero_known hz
    unfold Tabs.zero at hz
    rw [hi] at hz
    simp only at hz
    split at hz
    · rename_i zv hzv
      refine ⟨zv, hzv, ?_⟩
      have := (cells_rel (toAV_rel (φ := ⟨fun _ => none, fun _ => 0⟩) zv z hz) hk).length
      rw [Array.length_toList] at this
      omega
    · cases hz
  · cases h

theorem grown_rel (R : Rel B w₀ Q φ A w) {elem : TypeId} {l : List AV} {l' : List Value} {m k es b : Nat} {zc : Array Value} (hl : LRel φ l l') (hlen : l.length = m * es) (hz : zc.size = k * es) (he : A.newRow elem l = (b, A')) :
    ∃ φ', φ.le φ' ∧ Rel B w₀ Q φ' A' (w.alloc (.cells (l'.toArray ++ zc) elem)) ∧ VRel φ' (.slc b 0 m m false es) (.slice (some ⟨w.heap.size, 0, none⟩) m (m + k)) := by
  have hlen' := hl.length
  obtain ⟨h1, h2, h3⟩ := newRow_rel' R (elem := elem) (cells := l) (cells' := l'.toArray ++ zc) (by
    intro i hi
    obtain ⟨v, hv, hr⟩ := LRel.get i hl hi
    refine ⟨v, ?_, hr⟩
    rw [Array.getElem?_append_left (by simp; omega)]
    simpa using hv)
  rw [he] at h2 h3
  simp only at h2 h3
  subst h2
  refine ⟨_, h1, h3, ?_⟩
  simp only [VRel]
  refine ⟨_, m + k, rfl, Nat.le_refl _, by omega, fun h => (by cases h), fun _ => ⟨w.heap.size, 0, 0, Inj.put_self _ _ _ _, rfl, rfl, fun _ => ?_⟩⟩
  rw [Inj.sz_self, Array.size_append, List.size_toArray, hz, hlen', hlen, Nat.add_mul]
  omega

theorem append_run (H : T.Ok P) (R : Rel B w₀ Q φ A w) {st xt ty : TypeId} {s x v : AV} {s' x' : Value} (h : append T A st xt s x = some (v, A')) (hs : VRel φ s s') (hx : VRel φ x x') :
    Gives P B w₀ Q φ w A' v (Builtin.append_ #[st, xt] ty #[s', x']) := by
  unfold append at h
  split at h
  · rename_i elem xd hst hxt
    split at h
    · rename_i i hint hi
      split at h
      · rename_i size n new hsz happ
        replace hsz : i.size = size + 1 := hsz
        have hint' : ∀ k, xd ≠ .int k := by rintro k rfl; cases hint
        obtain ⟨hlen, hn, new', hnewr, hnew⟩ := appended_run (P := P) R happ hx
        obtain ⟨_, _, new2, hnewr2, hnew2⟩ := appended_run (P := P) R.drew happ hx
        have hlen' := hnewr.length
        have hlen2 := hnewr2.length
        have hP := H.und hst
        have hQ := H.und hxt
        have hI := H.ty _ _ hi
        cases hb : Nat.beq n 0 with
        | true =>
          have hn0 := Nat.eq_of_beq_eq_true hb
          subst hn0
          rw [hb] at h
          simp only [cond_true] at h
          rw [Nat.zero_mul] at hlen
          obtain rfl : new' = [] := List.eq_nil_of_length_eq_zero (by omega)
          split at h
          · cases h
            simp only [VRel] at hs; subst hs
            refine ⟨φ, _, w, append_same (w' := w) hP hQ hint' hI hn hnew (Nat.le_refl _) (by intro a h; cases h) (fun _ => rfl), φ.le_refl, R, by simp only [VRel]⟩
          · cases h
            have hs0 := hs
            simp only [VRel] at hs
            obtain ⟨a, c, rfl, h1, h2, h3, h4⟩ := hs
            refine ⟨φ, _, w, append_same (w' := w) hP hQ hint' hI hn hnew (by omega) (fun a _ => rfl) (fun _ => rfl), φ.le_refl, R, hs0⟩
          · cases h
        | false =>
          have hn0 : n ≠ 0 := by rintro rfl; cases hb
          rw [hb] at h
          simp only [cond_false] at h
          split at h
          · -- nil
            simp only [VRel] at hs; subst hs
            cases hc : Nat.ble (n * i.bytes) rowBytes && Nat.ble n 4611686018427387904 with
            | false => rw [hc] at h; cases h
            | true =>
              rw [hc] at h
              simp only [cond_true] at h
              simp only [Bool.and_eq_true] at hc
              cases hc2 : zeroFits T elem (size + 1) && allOne new with
              | false => rw [hc2] at h; cases h
              | true =>
                rw [hc2] at h
                simp only [cond_true] at h
                simp only [Bool.and_eq_true] at hc2
                obtain ⟨z, hz, hzl⟩ := zeroFits_ok hc2.1 hi
                obtain ⟨k, hk⟩ := append_new (ty := ty) (old' := []) hP hQ hint' hI hz hn hnew2 (sLen := 0) (sCap := 0) (base := none) (by simp [Builtin.firstCells]) (by omega) (by rw [Nat.zero_add]; exact Nat.le_of_ble_eq_true hc.1) (by have := Nat.le_of_ble_eq_true hc.2; omega)
                cases he : A.newRow elem new with
                | mk b A₁ =>
                  rw [he] at h
                  cases h
                  obtain ⟨φ', g1, g2, g3⟩ := grown_rel R.drew hnewr2 (m := n) (es := size + 1) (k := k) (zc := Builtin.zeroCells z.cells k) (by rw [hlen, hsz]) (by rw [zeroCells_size, hzl]) he
                  refine ⟨φ', _, _, hk, g1, ?_, ?_⟩
                  · simpa using g2
                  · rw [Nat.zero_add]; exact g3
          · rename_i b o len cap ex es
            cases hc : Nat.ble ((len + n) * i.bytes) rowBytes && Nat.ble (len + n) 4611686018427387904 && zeroFits T elem (size + 1) with
            | false => rw [hc] at h; cases h
            | true =>
              rw [hc] at h
              simp only [cond_true] at h
              simp only [Bool.and_eq_true] at hc
              obtain ⟨z, hz, hzl⟩ := zeroFits_ok hc.2 hi
              have hc1 := Nat.le_of_ble_eq_true hc.1.1
              have hc2 := Nat.le_of_ble_eq_true hc.1.2
              have hs0 := hs
              simp only [VRel] at hs
              obtain ⟨a, c, rfl, h1, h2, h3, h4⟩ := hs
              cases hex : ex with
              | true =>
                rw [hex] at h
                simp only [cond_true] at h
                obtain rfl := h3 hex
                cases hf : Nat.ble (len + n) c with
                | true =>
                  rw [hf] at h
                  simp only [cond_true] at h
                  have hfit := Nat.le_of_ble_eq_true hf
                  split at h
                  · rename_i A₁ hA
                    cases h
                    obtain ⟨N, d, off, f, e, rfl, _⟩ := h4 (by omega)
                    obtain ⟨w', hw', R'⟩ := store_run (P := P) R hA f (off := off + len * i.size) (by rw [hsz]; omega) hnewr
                    refine ⟨φ, _, w', append_same (w' := w') hP hQ hint' hI hn hnew hfit (fun a ha => by cases ha; rw [addr_add]; exact hw') (fun h => by cases h), φ.le_refl, R', ?_⟩
                    simp only [VRel]
                    exact ⟨_, c, rfl, hfit, Nat.le_refl _, fun _ => rfl, fun _ => ⟨N, d, off, f, e, rfl, fun h => by cases h⟩⟩
                  · cases h
                | false =>
                  rw [hf] at h
                  simp only [cond_false] at h
                  have hfit : ¬ (len + n ≤ c) := fun hle => by rw [Nat.ble_eq_true_of_le hle] at hf; cases hf
                  split at h
                  · rename_i old hold
                    have hx2 := hs0
                    obtain ⟨old', hor, horun⟩ := sliceCells_run (P := P) R.drew (size := size + 1) (n := len) hold hx2 (Nat.le_refl _)
                    obtain ⟨k, hk⟩ := append_new (ty := ty) (old' := old') hP hQ hint' hI hz hn hnew2 (sLen := len) (sCap := c) (base := some a) (by rw [hsz]; exact horun) (by omega) hc1 hc2
                    cases he : A.newRow elem (old ++ new) with
                    | mk b₁ A₁ =>
                      rw [he] at h
                      cases h
                      have hol := cells_length hold
                      obtain ⟨φ', g1, g2, g3⟩ := grown_rel R.drew (hor.append hnewr2) (m := len + n) (es := size + 1) (k := k) (zc := Builtin.zeroCells z.cells k) (by rw [List.length_append, hlen, hsz, hol, Nat.add_mul]) (by rw [zeroCells_size, hzl]) he
                      exact ⟨φ', _, _, hk, g1, g2, g3⟩
                  · cases h
              | false =>
                rw [hex] at h
                simp only [cond_false] at h
                split at h
                · rename_i cl lo hi' cells el hg
                  cases hex
                  cases hq : Nat.ble lo o && Nat.ble (o + len * (size + 1)) hi' && Nat.beq el elem && Nat.beq es (size + 1) && allOne new with
                  | false => rw [hq] at h; cases h
                  | true =>
                    rw [hq] at h
                    simp only [cond_true] at h
                    simp only [Bool.and_eq_true] at hq
                    obtain ⟨⟨⟨⟨hlo, hph⟩, hel⟩, hes⟩, hone⟩ := hq
                    replace hlo := Nat.le_of_ble_eq_true hlo
                    replace hph := Nat.le_of_ble_eq_true hph
                    obtain rfl := Nat.eq_of_beq_eq_true hel
                    obtain rfl := Nat.eq_of_beq_eq_true hes
                    split at h
                    · rename_i ms hms
                      rw [mkHeap_eq] at h
                      cases h
                      have hfr := R.fresh A.next (Nat.le_refl _)
                      by_cases hfit : len + n ≤ c
                      · obtain ⟨N, d, off, f, e, rfl, e5⟩ := h4 (by omega)
                        obtain ⟨φ', w', g1, g2, g3, g4⟩ := extend_run (P := P) R hg f hms (o := o) (off := off) e hlo (k := len * (size + 1)) hph hone hnewr (by
                          have := e5 rfl
                          have h5 : (len + n) * (size + 1) ≤ c * (size + 1) := Nat.mul_le_mul_right _ hfit
                          rw [Nat.add_mul] at h5
                          rw [hlen, hsz]; omega)
                        rw [hlen, hsz] at g3
                        refine ⟨φ', _, w', append_same (w' := w') hP hQ hint' hI hn hnew hfit (fun a ha => by cases ha; rw [addr_add, hsz]; exact g2) (fun h => by cases h), g1, g3, ?_⟩
                        simp only [VRel]
                        exact ⟨_, c, rfl, Nat.le_refl _, hfit, fun h => (by cases h), fun _ => ⟨N, d, off, g4.1, e, rfl, fun _ => by rw [g4.2]; exact e5 rfl⟩⟩
                      · obtain ⟨old', ho1, ho2, ho3⟩ : ∃ old' : List Value, old'.length = len * (size + 1) ∧ (∀ i, i < len * (size + 1) → ∃ v, old'[i]? = some v ∧ VRel φ (getTmp cells (o + i)) v) ∧
                            (Builtin.firstCells (size + 1) len (.slice (some a) len c)).run P w.drew = .ok old'.toArray w.drew := by
                          by_cases hc0 : c = 0
                          · obtain rfl : len = 0 := by omega
                            exact ⟨[], by simp, by intro i hi; omega, by simp [Builtin.firstCells, loadCells, loadCellsFrom]⟩
                          · obtain ⟨N, d, off, f, e, rfl, e5⟩ := h4 hc0
                            exact prefix_run (P := P) R.drew hg f e hlo _ hph
                        obtain ⟨k, hk⟩ := append_new (ty := ty) (old' := old') hP hQ hint' hI hz hn hnew2 (sLen := len) (sCap := c) (base := some a) (by rw [hsz]; exact ho3) (by omega) hc1 hc2
                        have R1 := R.drew.pruned hms A.next (o + len * (size + 1)) (by intro c' lo' hi' cs' e' hx; rw [hfr.2] at hx; cases hx)
                        have hlt := (R.mem _ _ _ _ _ _ hg).1
                        have hnl : new2.length = n * (size + 1) := by rw [hlen2, hlen, hsz]
                        have hnl' : new.length = n * (size + 1) := by rw [hlen, hsz]
                        refine ⟨_, _, _, hk, Inj.le_put _ _ hfr.1, R1.allocIn (c := cl) (lo := o) (hi := o + len * (size + 1) + n * (size + 1)) (cs := setCells cells (o + len * (size + 1)) new) (e := el) (d := -(o : Int)) (n := (len + n + k) * (size + 1))
                          hlt (Tree.get_put_self _ _ _) (Tree.get_put_self _ _ _) (fun c' hc' => by rw [Tree.get_put_ne _ _ _ hc']; exact (Tree.get_put_ne _ _ _ hc').symm) ?_, ?_⟩
                        · refine ⟨_, (0, 0), rfl, fun _ => ⟨rfl, ?_⟩, fun i hl hh => ⟨i - o, by omega, ?_⟩⟩
                          · rw [Array.size_append, zeroCells_size, hzl, List.size_toArray, List.length_append, ho1, hnl, Nat.add_mul, Nat.add_mul]
                          · by_cases hip : i < o + len * (size + 1)
                            · obtain ⟨v, hv, hr⟩ := ho2 (i - o) (by omega)
                              refine ⟨v, ?_, ?_⟩
                              · rw [Array.getElem?_append_left (by simp; omega)]
                                simp only [List.getElem?_toArray]
                                rw [List.getElem?_append_left (by omega)]
                                exact hv
                              · rw [getTmp_setCells, if_neg (by omega)]
                                rw [show o + (i - o) = i by omega] at hr
                                exact hr.mono (Inj.le_put _ _ hfr.1)
                            · obtain ⟨v, hv, hr⟩ := LRel.get (i - (o + len * (size + 1))) hnewr2 (by omega)
                              refine ⟨v, ?_, ?_⟩
                              · rw [Array.getElem?_append_left (by simp; omega)]
                                simp only [List.getElem?_toArray]
                                rw [List.getElem?_append_right (by omega), show i - o - old'.length = i - (o + len * (size + 1)) by omega]
                                exact hv
                              · rw [getTmp_setCells, if_pos (by omega), List.getD_eq_getElem?_getD, List.getElem?_eq_getElem (by omega)]
                                exact hr.mono (Inj.le_put _ _ hfr.1)
                        · simp only [VRel]
                          refine ⟨_, len + n + k, rfl, Nat.le_refl _, by omega, fun h => (by cases h), fun _ => ⟨_, _, 0, Inj.put_self _ _ _ _, by omega, rfl, fun _ => ?_⟩⟩
                          rw [Inj.sz_self, Nat.zero_add]
                          exact Nat.le_refl _
                    · cases h
                · cases h
          · cases h
      · cases h
    · cases h
  · cases h
end
end Go.Abs
