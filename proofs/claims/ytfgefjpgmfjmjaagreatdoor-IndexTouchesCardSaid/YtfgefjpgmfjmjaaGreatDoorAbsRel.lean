/- The relation between the abstract machine's values, heap and the model's; lemmas on trees. -/
import Derived.Test.YtfgefjpgmfjmjaaGreatDoorAbsM
import Derived.Below
namespace Go.Abs
open Go.RowKit (Below)

/-! Trees -/
namespace Tree
variable {α : Type}

theorem pick4_cases {β : Type} (i : Nat) (hi : i < 4) (a b c d : β) :
    (i = 0 ∧ pick4 i a b c d = a) ∨ (i = 1 ∧ pick4 i a b c d = b) ∨ (i = 2 ∧ pick4 i a b c d = c) ∨ (i = 3 ∧ pick4 i a b c d = d) := by
  match i, hi with
  | 0, _ => exact .inl ⟨rfl, rfl⟩
  | 1, _ => exact .inr (.inl ⟨rfl, rfl⟩)
  | 2, _ => exact .inr (.inr (.inl ⟨rfl, rfl⟩))
  | 3, _ => exact .inr (.inr (.inr ⟨rfl, rfl⟩))

theorem get_leaf (k : Nat) : (leaf : Tree α).get k = none := rfl
theorem get_node_zero (v : Option α) (a b c d : Tree α) : (node v a b c d).get 0 = v := rfl
theorem get_node_succ (v : Option α) (a b c d : Tree α) (k : Nat) :
    (node v a b c d).get (k + 1) = (pick4 (k % 4) a b c d).get (k / 4) := by
  show pick4 (k % 4) a.get b.get c.get d.get (k / 4) = _
  rcases pick4_cases (k % 4) (by omega) a b c d with ⟨h, e⟩ | ⟨h, e⟩ | ⟨h, e⟩ | ⟨h, e⟩ <;> rw [e, h] <;> rfl
theorem strict_eq {β : Type} (t : Tree α) (f : Tree α → β) : t.strict f = f t := by cases t <;> rfl

def with4 (i : Nat) (x : Option α) (t a b c d : Tree α) : Tree α :=
  pick4 i (node x t b c d) (node x a t c d) (node x a b t d) (node x a b c t)
theorem get_with4 (i : Nat) (hi : i < 4) (x : Option α) (t a b c d : Tree α) (j : Nat) (hj : j < 4) (k : Nat) (hjk : k % 4 = j) :
    (with4 i x t a b c d).get (k + 1) = if j = i then t.get (k / 4) else (pick4 j a b c d).get (k / 4) := by
  unfold with4
  match i, hi with
  | 0, _ => 
    show (node x t b c d).get (k+1) = _
    rw [get_node_succ, hjk]
    match j, hj with
    | 0, _ => rfl
    | 1, _ => rfl
    | 2, _ => rfl
    | 3, _ => rfl
  | 1, _ => 
    show (node x a t c d).get (k+1) = _
    rw [get_node_succ, hjk]
    match j, hj with
    | 0, _ => rfl
    | 1, _ => rfl
    | 2, _ => rfl
    | 3, _ => rfl
  | 2, _ => 
    show (node x a b t d).get (k+1) = _
    rw [get_node_succ, hjk]
    match j, hj with
    | 0, _ => rfl
    | 1, _ => rfl
    | 2, _ => rfl
    | 3, _ => rfl
  | 3, _ => 
    show (node x a b c t).get (k+1) = _
    rw [get_node_succ, hjk]
    match j, hj with
    | 0, _ => rfl
    | 1, _ => rfl
    | 2, _ => rfl
    | 3, _ => rfl
theorem get_with4_zero (i : Nat) (hi : i < 4) (x : Option α) (t a b c d : Tree α) : (with4 i x t a b c d).get 0 = x := by
  unfold with4
  match i, hi with
  | 0, _ => rfl
  | 1, _ => rfl
  | 2, _ => rfl
  | 3, _ => rfl

theorem sing_zero (f : Nat) (v : Option α) : sing f 0 v = node v leaf leaf leaf leaf := by cases f <;> rfl
theorem sing_succ (f k : Nat) (v : Option α) : sing (f + 1) (k + 1) v = with4 (k % 4) none (sing f (k / 4) v) leaf leaf leaf leaf := by
  show pick4 (k % 4) (strict (sing f (k / 4) v) fun t => node none t leaf leaf leaf) (strict (sing f (k / 4) v) fun t => node none leaf t leaf leaf)
    (strict (sing f (k / 4) v) fun t => node none leaf leaf t leaf) (strict (sing f (k / 4) v) fun t => node none leaf leaf leaf t) = _
  rw [strict_eq, strict_eq, strict_eq, strict_eq]
  rfl
theorem put_leaf (k : Nat) (v : Option α) : (leaf : Tree α).put k v = sing k k v := rfl
theorem put_node_zero (x : Option α) (a b c d : Tree α) (v : Option α) : (node x a b c d).put 0 v = node v a b c d := rfl
theorem put_node_succ (x : Option α) (a b c d : Tree α) (k : Nat) (v : Option α) :
    (node x a b c d).put (k + 1) v = with4 (k % 4) x ((pick4 (k % 4) a b c d).put (k / 4) v) a b c d := by
  show pick4 (k % 4) (strict (a.put (k / 4) v) fun t => node x t b c d) (strict (b.put (k / 4) v) fun t => node x a t c d)
    (strict (c.put (k / 4) v) fun t => node x a b t d) (strict (d.put (k / 4) v) fun t => node x a b c t) = _
  rw [strict_eq, strict_eq, strict_eq, strict_eq]
  unfold with4
  rcases pick4_cases (k % 4) (by omega) a b c d with ⟨h, e⟩ | ⟨h, e⟩ | ⟨h, e⟩ | ⟨h, e⟩ <;> rw [e, h] <;> rfl

theorem pick4_leaf (i : Nat) (hi : i < 4) : pick4 i (leaf : Tree α) leaf leaf leaf = leaf := by
  match i, hi with
  | 0, _ => rfl
  | 1, _ => rfl
  | 2, _ => rfl
  | 3, _ => rfl

theorem get_sing : ∀ (f k : Nat) (v : Option α) (j : Nat), k ≤ f → (sing f k v).get j = if j = k then v else none
  | f, 0, v, j, _ => by
    rw [sing_zero]
    cases j with
    | zero => rfl
    | succ j => rw [get_node_succ, pick4_leaf _ (by omega)]; simp [get_leaf]
  | 0, k + 1, v, j, h => by omega
  | f + 1, k + 1, v, j, h => by
    rw [sing_succ]
    cases j with
    | zero => rw [get_with4_zero _ (by omega)]; simp
    | succ j =>
      rw [get_with4 _ (by omega) _ _ _ _ _ _ (j % 4) (by omega) _ rfl, pick4_leaf _ (by omega), get_sing f (k / 4) v (j / 4) (by omega)]
      by_cases hjk : j = k
      · subst hjk; simp
      · have hjk' : ¬ j + 1 = k + 1 := by omega
        rw [if_neg hjk']
        by_cases hm : j % 4 = k % 4
        · have hd : ¬ j / 4 = k / 4 := by omega
          rw [if_pos hm, if_neg hd]
        · rw [if_neg hm, get_leaf]

theorem get_put (t : Tree α) : ∀ (k : Nat) (v : Option α) (j : Nat), (t.put k v).get j = if j = k then v else t.get j := by
  induction t with
  | leaf => intro k v j; rw [put_leaf, get_sing _ _ _ _ (Nat.le_refl _), get_leaf]
  | node x a b c d iha ihb ihc ihd =>
    intro k v j
    cases k with
    | zero =>
      rw [put_node_zero]
      cases j with
      | zero => rfl
      | succ j => rw [get_node_succ, get_node_succ]; simp
    | succ k =>
      rw [put_node_succ]
      cases j with
      | zero => rw [get_with4_zero _ (by omega), get_node_zero]; simp
      | succ j =>
        rw [get_with4 _ (by omega) _ _ _ _ _ _ (j % 4) (by omega) _ rfl, get_node_succ]
        by_cases hjk : j = k
        · subst hjk
          rw [if_pos rfl, if_pos rfl]
          rcases pick4_cases (j % 4) (by omega) a b c d with ⟨h, e⟩ | ⟨h, e⟩ | ⟨h, e⟩ | ⟨h, e⟩ <;> rw [e]
          · rw [iha]; simp
          · rw [ihb]; simp
          · rw [ihc]; simp
          · rw [ihd]; simp
        · rw [if_neg (show ¬ j + 1 = k + 1 by omega)]
          by_cases hm : j % 4 = k % 4
          · rw [if_pos hm, ← hm]
            have hd : j / 4 ≠ k / 4 := by omega
            rcases pick4_cases (j % 4) (by omega) a b c d with ⟨h, e⟩ | ⟨h, e⟩ | ⟨h, e⟩ | ⟨h, e⟩ <;> rw [e]
            · rw [iha, if_neg hd]
            · rw [ihb, if_neg hd]
            · rw [ihc, if_neg hd]
            · rw [ihd, if_neg hd]
          · rw [if_neg hm]

theorem get_put_self (t : Tree α) (k : Nat) (v : Option α) : (t.put k v).get k = v := by rw [get_put, if_pos rfl]
theorem get_put_ne (t : Tree α) (k : Nat) (v : Option α) {j : Nat} (h : j ≠ k) : (t.put k v).get j = t.get j := by rw [get_put, if_neg h]

theorem ofList_nil (i : Nat) (t : Tree α) : ofList [] i t = t := rfl
theorem ofList_cons (x : α) (l : List α) (i : Nat) (t : Tree α) : ofList (x :: l) i t = ofList l (i + 1) (t.put i (some x)) := rfl
theorem get_ofList (l : List α) : ∀ (i : Nat) (t : Tree α) (j : Nat), (ofList l i t).get j = if i ≤ j ∧ j < i + l.length then l[j - i]? else t.get j := by
  induction l with
  | nil => intro i t j; rw [ofList_nil, if_neg (by simp only [List.length_nil]; omega)]
  | cons x l ih =>
    intro i t j
    rw [ofList_cons, ih, get_put]
    by_cases h1 : j = i
    · subst h1
      rw [if_neg (by omega), if_pos rfl, if_pos (by simp)]; simp
    · rw [if_neg h1]
      by_cases h2 : i + 1 ≤ j ∧ j < i + 1 + l.length
      · rw [if_pos h2, if_pos (by simp; omega)]
        obtain ⟨m, rfl⟩ : ∃ m, j = i + 1 + m := ⟨j - (i + 1), by omega⟩
        rw [show i + 1 + m - (i + 1) = m by omega, show i + 1 + m - i = m + 1 by omega]; simp
      · rw [if_neg h2, if_neg (by simp; omega)]
theorem get_ofList_zero (l : List α) (j : Nat) : (ofList l 0 .leaf).get j = l[j]? := by
  rw [get_ofList]
  by_cases h : j < l.length
  · rw [if_pos (by omega)]; simp
  · rw [if_neg (by omega), get_leaf, List.getElem?_eq_none (by omega)]
end Tree

/-! Values -/

/-- Where an abstract block lies: a block, and what is added to a place in it. -/
structure Inj where
  m : Nat → Option (Nat × Int)
  /-- how many cells the row has that stands for a block -/
  sz : Nat → Nat
instance : CoeFun Inj (fun _ => Nat → Option (Nat × Int)) := ⟨Inj.m⟩

def FnRel (φ : Inj) : Fn → Fn → Prop
  | .yield l, f => ∃ N d, φ l = some (N, d) ∧ f = .yield N
  | f, g => g = f

mutual
def VRel (φ : Inj) : AV → Value → Prop
  | .bool b, v => v = .bool b
  | .int k n, v => v = .int k n
  | .str s, v => ∃ t, v = .string t ∧ bytesOf t = s
  | .ptr b o, v => ∃ N d, ∃ off : Nat, φ b = some (N, d) ∧ (off : Int) = (o : Int) + d ∧ v = .pointer (some ⟨N, off, none⟩)
  | .nilp, v => v = .pointer none
  | .slc b o len cap ex es, v => ∃ a c, v = .slice (some a) len c ∧ len ≤ cap ∧ cap ≤ c ∧ (ex = true → c = cap) ∧
      (c ≠ 0 → ∃ N d, ∃ off : Nat, φ b = some (N, d) ∧ (off : Int) = (o : Int) + d ∧ a = ⟨N, off, none⟩ ∧ (ex = false → off + c * es ≤ φ.sz b))
  | .nils, v => v = .slice none 0 0
  | .map b, v => ∃ N d, φ b = some (N, d) ∧ v = .map (some N)
  | .nilm, v => v = .map none
  | .fn f a c, v => ∃ g a' c', v = .func g a' c' ∧ FnRel φ f g ∧ LRel φ a a'.toList ∧ LRel φ c c'.toList
  | .nilf, v => v = .nilFunc
  | .ifc t x, v => ∃ y, v = .iface t y ∧ VRel φ x y
  | .nili, v => v = .nilIface
  | .agg cs, v => ∃ cs', v = .agg cs' ∧ LRel φ cs cs'.toList
  | .tup cs, v => ∃ cs', v = .tuple cs' ∧ LRel φ cs cs'.toList
  | .any, _ => True
def LRel (φ : Inj) : List AV → List Value → Prop
  | [], l => l = []
  | v :: r, l => ∃ x y, l = x :: y ∧ VRel φ v x ∧ LRel φ r y
end

def Inj.le (φ ψ : Inj) : Prop := ∀ b x, φ b = some x → ψ b = some x ∧ ψ.sz b = φ.sz b
theorem Inj.le_refl (φ : Inj) : φ.le φ := fun _ _ h => ⟨h, rfl⟩
theorem Inj.le_trans {φ ψ χ : Inj} (h : φ.le ψ) (k : ψ.le χ) : φ.le χ := fun b x e => ⟨(k b x (h b x e).1).1, (k b x (h b x e).1).2.trans (h b x e).2⟩

theorem FnRel.mono {φ ψ : Inj} (h : φ.le ψ) {f g : Fn} (r : FnRel φ f g) : FnRel ψ f g := by
  cases f <;> first | exact r | (obtain ⟨N, d, e, rfl⟩ := r; exact ⟨N, d, (h _ _ e).1, rfl⟩)

mutual
theorem VRel.mono {φ ψ : Inj} (h : φ.le ψ) : ∀ (a : AV) {v : Value}, VRel φ a v → VRel ψ a v
  | .bool _, _, r | .int _ _, _, r | .str _, _, r | .nilp, _, r | .nils, _, r | .nilm, _, r | .nilf, _, r | .nili, _, r => by
    simp only [VRel] at r ⊢; exact r
  | .any, _, _ => by simp only [VRel]
  | .ptr b o, v, r => by
    simp only [VRel] at r ⊢
    obtain ⟨N, d, off, e, r⟩ := r; exact ⟨N, d, off, (h _ _ e).1, r⟩
  | .slc b o len cap ex es, v, r => by
    simp only [VRel] at r ⊢
    obtain ⟨a, c, e, h1, h2, h3, h4⟩ := r
    refine ⟨a, c, e, h1, h2, h3, fun hc => ?_⟩
    obtain ⟨N, d, off, e, r1, r2, r3⟩ := h4 hc; exact ⟨N, d, off, (h _ _ e).1, r1, r2, fun he => by rw [(h _ _ e).2]; exact r3 he⟩
  | .map b, v, r => by
    simp only [VRel] at r ⊢
    obtain ⟨N, d, e, r⟩ := r; exact ⟨N, d, (h _ _ e).1, r⟩
  | .fn f a c, v, r => by
    simp only [VRel] at r ⊢
    obtain ⟨g, a', c', e, hf, h1, h2⟩ := r
    exact ⟨g, a', c', e, hf.mono h, LRel.mono h a h1, LRel.mono h c h2⟩
  | .ifc t x, v, r => by
    simp only [VRel] at r ⊢
    obtain ⟨y, e, hy⟩ := r; exact ⟨y, e, VRel.mono h x hy⟩
  | .agg cs, v, r => by
    simp only [VRel] at r ⊢
    obtain ⟨y, e, hy⟩ := r; exact ⟨y, e, LRel.mono h cs hy⟩
  | .tup cs, v, r => by
    simp only [VRel] at r ⊢
    obtain ⟨y, e, hy⟩ := r; exact ⟨y, e, LRel.mono h cs hy⟩
theorem LRel.mono {φ ψ : Inj} (h : φ.le ψ) : ∀ (l : List AV) {vs : List Value}, LRel φ l vs → LRel ψ l vs
  | [], _, r => by simp only [LRel] at r ⊢; exact r
  | a :: l, vs, r => by
    simp only [LRel] at r ⊢
    obtain ⟨x, y, e, hx, hy⟩ := r
    exact ⟨x, y, e, VRel.mono h a hx, LRel.mono h l hy⟩
end

theorem LRel.length {φ : Inj} : ∀ {l : List AV} {vs : List Value}, LRel φ l vs → vs.length = l.length
  | [], _, r => by simp only [LRel] at r; simp [r]
  | _ :: l, _, r => by
    simp only [LRel] at r
    obtain ⟨x, y, rfl, _, hy⟩ := r
    simp [LRel.length hy]

mutual
theorem toAV_rel {φ : Inj} : ∀ (v : Value) (a : AV), toAV v = some a → VRel φ a v
  | .bool b, a, h => by simp only [toAV, Option.some.injEq] at h; subst h; simp [VRel]
  | .int k n, a, h => by simp only [toAV, Option.some.injEq] at h; subst h; simp [VRel]
  | .string s, a, h => by simp only [toAV, Option.some.injEq] at h; subst h; simp [VRel]
  | .pointer none, a, h => by simp only [toAV, Option.some.injEq] at h; subst h; simp [VRel]
  | .slice none 0 0, a, h => by simp only [toAV, Option.some.injEq] at h; subst h; simp [VRel]
  | .map none, a, h => by simp only [toAV, Option.some.injEq] at h; subst h; simp [VRel]
  | .nilFunc, a, h => by simp only [toAV, Option.some.injEq] at h; subst h; simp [VRel]
  | .nilIface, a, h => by simp only [toAV, Option.some.injEq] at h; subst h; simp [VRel]
  | .agg ⟨cs⟩, a, h => by
    simp only [toAV] at h
    cases hl : toAVs cs with
    | none => rw [hl] at h; simp at h
    | some l =>
      rw [hl] at h; simp only [Option.some.injEq] at h; subst h
      simp only [VRel]
      exact ⟨_, rfl, toAVs_rel cs l hl⟩
  | .tuple ⟨cs⟩, a, h => by
    simp only [toAV] at h
    cases hl : toAVs cs with
    | none => rw [hl] at h; simp at h
    | some l =>
      rw [hl] at h; simp only [Option.some.injEq] at h; subst h
      simp only [VRel]
      exact ⟨_, rfl, toAVs_rel cs l hl⟩
  | .iface t v, a, h => by
    simp only [toAV] at h
    cases hl : toAV v with
    | none => rw [hl] at h; simp at h
    | some l =>
      rw [hl] at h; simp only [Option.some.injEq] at h; subst h
      simp only [VRel]
      exact ⟨_, rfl, toAV_rel v l hl⟩
  | .func (.func f) ⟨[]⟩ ⟨[]⟩, a, h => by
    simp only [toAV, Option.some.injEq] at h; subst h
    simp only [VRel]
    exact ⟨_, _, _, rfl, rfl, rfl, rfl⟩
  | .float _ _, a, h => by simp [toAV] at h
  | .complex _ _ _, a, h => by simp [toAV] at h
  | .pointer (some _), a, h => by simp [toAV] at h
  | .slice (some _) _ _, a, h => by simp [toAV] at h
  | .slice none (_ + 1) _, a, h => by simp [toAV] at h
  | .slice none 0 (_ + 1), a, h => by simp [toAV] at h
  | .map (some _), a, h => by simp [toAV] at h
  | .chan _, a, h => by simp [toAV] at h
  | .func (.func _) ⟨_ :: _⟩ _, a, h => by simp [toAV] at h
  | .func (.func _) ⟨[]⟩ ⟨_ :: _⟩, a, h => by simp [toAV] at h
  | .func (.method _) _ _, a, h => by simp [toAV] at h
  | .func (.methodOf _ _) _ _, a, h => by simp [toAV] at h
  | .func (.via _ _ _ _) _ _, a, h => by simp [toAV] at h
  | .func (.yield _) _ _, a, h => by simp [toAV] at h
theorem toAVs_rel {φ : Inj} : ∀ (vs : List Value) (l : List AV), toAVs vs = some l → LRel φ l vs
  | [], l, h => by simp only [toAVs, Option.some.injEq] at h; subst h; simp [LRel]
  | v :: r, l, h => by
    simp only [toAVs] at h
    cases h1 : toAV v with
    | none => rw [h1] at h; simp at h
    | some x =>
      rw [h1] at h
      cases h2 : toAVs r with
      | none => rw [h2] at h; simp at h
      | some y =>
        rw [h2] at h; simp only [Option.some.injEq] at h; subst h
        simp only [LRel]
        exact ⟨v, r, rfl, toAV_rel v x h1, toAVs_rel r y h2⟩
end

/-! The heap -/

/-- What stands of an object that is no row. -/
def ERel (φ : Inj) (e : AV × AV × Nat) (m : MapEntry) : Prop := VRel φ e.1 m.key ∧ VRel φ e.2.1 m.val ∧ m.born = e.2.2
inductive EsRel (φ : Inj) : List (AV × AV × Nat) → List MapEntry → Prop where
  | nil : EsRel φ [] []
  | cons {e m es ms} (h : ERel φ e m) (t : EsRel φ es ms) : EsRel φ (e :: es) (m :: ms)

def DefRel (φ : Inj) (d : ADef) (e : Deferred) : Prop :=
  ∃ f c, e.target = .fn f c ∧ FnRel φ d.fn f ∧ LRel φ d.captured c.toList ∧ LRel φ d.args e.args.toList
def DeferRel (φ : Inj) : ADefer → Deferred → Prop
  | .call d, e => DefRel φ d e
  | .mark b, e => ∃ N d, φ b = some (N, d) ∧ e = { target := .collected N, args := #[] }
inductive DefersRel (φ : Inj) : List ADefer → List Deferred → Prop where
  | nil : DefersRel φ [] []
  | cons {d e ds es} (h : DeferRel φ d e) (t : DefersRel φ ds es) : DefersRel φ (d :: ds) (e :: es)

/-- Slots: what is known of a slot is so. -/
def TRel (φ : Inj) (tmps : Tree AV) (l : Array Value) : Prop := ∀ t, VRel φ (getTmp tmps t) (l.getD t undef)
/-- What is not kept is not known. -/
def KeepOk (keep : Tree Unit) (tmps : Tree AV) : Prop := ∀ t, keep.get t = none → getTmp tmps t = .any

def LoopRel (φ : Inj) (a : ALoop) (l : Loop) : Prop :=
  l.state = a.state ∧ l.pending = a.pending ∧ l.fn = a.fn ∧ TRel φ a.tmps l.tmps ∧ l.tmps.size = a.nt ∧ KeepOk a.keep a.tmps ∧ l.params.toList = a.params ∧
  l.assign = a.assign ∧ l.body = a.body ∧ ∃ N d, φ a.defers = some (N, d) ∧ l.defers = N

/-- An object and what stands for it; 'd' is what is added to a place. -/
def ORel (φ : Inj) (d : Int) (sz : Nat) : AObj → Obj → Prop
  | .row _ lo hi cells elem wr, o => ∃ cs fr, o = .cells cs elem fr ∧ (wr = true → fr = (0, 0) ∧ cs.size = sz) ∧
      ∀ i, lo ≤ i → i < hi → ∃ j : Nat, (j : Int) = (i : Int) + d ∧ ∃ v, cs[j]? = some v ∧ VRel φ (getTmp cells i) v
  | .map es clock, o => ∃ ms, o = .map ms clock ∧ EsRel φ es ms.toList
  | .iter s pos, o => d = 0 ∧ ∃ t, o = .stringIter t pos ∧ bytesOf t = s
  | .loop a, o => ∃ l, o = .loop l ∧ LoopRel φ a l
  | .defd ds, o => ∃ es, o = .deferred es ∧ (match ds, es with
      | some ds, some es => DefersRel φ ds es
      | none, none => True
      | _, _ => False)

/-- Is it one of the machine's own? -/
def AObj.own : AObj → Bool
  | .row _ _ _ _ _ wr => wr
  | _ => true

structure Rel (B : Nat) (w₀ : World) (Q : List Nat) (φ : Inj) (A : AHeap) (w : World) : Prop where
  below : Below B w₀ w
  base : B ≤ w.heap.size
  fresh : ∀ b, A.next ≤ b → φ b = none ∧ A.objs.get b = none
  bound : ∀ b N d, φ b = some (N, d) → N < w.heap.size
  obj : ∀ b o N d, A.objs.get b = some o → φ b = some (N, d) → ∃ r, w.heap[N]? = some r ∧ ORel φ d (φ.sz b) o r
  own : ∀ b o N d, A.objs.get b = some o → φ b = some (N, d) → o.own = true → B ≤ N
  sep : ∀ b₁ b₂ o₁ o₂ N d₁ d₂, b₁ ≠ b₂ → φ b₁ = some (N, d₁) → φ b₂ = some (N, d₂) → A.objs.get b₁ = some o₁ → A.objs.get b₂ = some o₂ →
    o₁.own = true → d₁ = d₂ ∧ ∃ c lo₁ hi₁ cs₁ e₁ lo₂ hi₂ cs₂ e₂, o₁ = .row c lo₁ hi₁ cs₁ e₁ true ∧ o₂ = .row c lo₂ hi₂ cs₂ e₂ true
  mem : ∀ b c lo hi cs e, A.objs.get b = some (.row c lo hi cs e true) → c < A.next ∧ ∃ ms, A.cls.get c = some ms ∧ b ∈ ms
  /-- blocks for which nothing stands yet -/
  pend : ∀ b, b ∈ Q → φ b = none ∧ b < A.next


theorem EsRel.mono {φ ψ : Inj} (h : φ.le ψ) {es : List (AV × AV × Nat)} {ms : List MapEntry} (r : EsRel φ es ms) : EsRel ψ es ms := by
  induction r with
  | nil => exact .nil
  | cons e _ ih => exact .cons ⟨e.1.mono h, e.2.1.mono h, e.2.2⟩ ih
theorem DefRel.mono {φ ψ : Inj} (h : φ.le ψ) {d : ADef} {e : Deferred} (r : DefRel φ d e) : DefRel ψ d e := by
  obtain ⟨f, c, e1, h1, h2, h3⟩ := r
  exact ⟨f, c, e1, h1.mono h, h2.mono h, h3.mono h⟩
theorem DeferRel.mono {φ ψ : Inj} (h : φ.le ψ) {d : ADefer} {e : Deferred} (r : DeferRel φ d e) : DeferRel ψ d e := by
  cases d with
  | call d => exact DefRel.mono h r
  | mark b => obtain ⟨N, d, e1, e2⟩ := r; exact ⟨N, d, (h _ _ e1).1, e2⟩
theorem DefersRel.mono {φ ψ : Inj} (h : φ.le ψ) {ds : List ADefer} {es : List Deferred} (r : DefersRel φ ds es) : DefersRel ψ ds es := by
  induction r with
  | nil => exact .nil
  | cons e _ ih => exact .cons (e.mono h) ih
theorem TRel.mono {φ ψ : Inj} (h : φ.le ψ) {t : Tree AV} {l : Array Value} (r : TRel φ t l) : TRel ψ t l := fun k => (r k).mono h
theorem LoopRel.mono {φ ψ : Inj} (h : φ.le ψ) {a : ALoop} {l : Loop} (r : LoopRel φ a l) : LoopRel ψ a l := by
  obtain ⟨h1, h2, h3, h4, h5, h6, h7, h8, h9, N, d, h10, h11⟩ := r
  exact ⟨h1, h2, h3, h4.mono h, h5, h6, h7, h8, h9, N, d, (h _ _ h10).1, h11⟩
theorem ORel.mono {φ ψ : Inj} (h : φ.le ψ) {d : Int} {n : Nat} {o : AObj} {r : Obj} (x : ORel φ d n o r) : ORel ψ d n o r := by
  cases o with
  | row c lo hi cells elem wr =>
    obtain ⟨cs, fr, e, h1, h2⟩ := x
    refine ⟨cs, fr, e, h1, fun i hl hh => ?_⟩
    obtain ⟨j, hj, v, hv, hr⟩ := h2 i hl hh
    exact ⟨j, hj, v, hv, hr.mono h⟩
  | map es clock => obtain ⟨ms, e, h1⟩ := x; exact ⟨ms, e, h1.mono h⟩
  | iter s pos => exact x
  | loop a => obtain ⟨l, e, h1⟩ := x; exact ⟨l, e, h1.mono h⟩
  | defd ds =>
    obtain ⟨es, e, h1⟩ := x
    refine ⟨es, e, ?_⟩
    cases ds <;> cases es <;> simp only at h1 ⊢
    exact h1.mono h

def Inj.put (φ : Inj) (b : Nat) (x : Nat × Int) (n : Nat) : Inj := ⟨fun k => if k = b then some x else φ k, fun k => if k = b then n else φ.sz k⟩
theorem Inj.put_self (φ : Inj) (b : Nat) (x : Nat × Int) (n : Nat) : φ.put b x n b = some x := by simp [Inj.put]
theorem Inj.put_ne (φ : Inj) {b k : Nat} (x : Nat × Int) (n : Nat) (h : k ≠ b) : φ.put b x n k = φ k := by simp [Inj.put, h]
theorem Inj.sz_self (φ : Inj) (b : Nat) (x : Nat × Int) (n : Nat) : (φ.put b x n).sz b = n := by simp [Inj.put]
theorem Inj.sz_ne (φ : Inj) {b k : Nat} (x : Nat × Int) (n : Nat) (h : k ≠ b) : (φ.put b x n).sz k = φ.sz k := by simp [Inj.put, h]
theorem Inj.le_put {φ : Inj} {b : Nat} (x : Nat × Int) (n : Nat) (h : φ b = none) : φ.le (φ.put b x n) := by
  intro k y hk
  have : k ≠ b := by rintro rfl; rw [h] at hk; cases hk
  exact ⟨by rw [Inj.put_ne _ _ _ this]; exact hk, Inj.sz_ne _ _ _ this⟩

theorem mkHeap_eq (objs : Tree AObj) (next : Nat) (cls : Tree (List Nat)) : mkHeap objs next cls = ⟨objs, next, cls⟩ := by
  unfold mkHeap; rw [Tree.strict_eq]

theorem heap_push (w : World) (r : Obj) (N : Nat) : (w.alloc r).heap[N]? = if N = w.heap.size then some r else w.heap[N]? := by
  show (w.heap.push r)[N]? = _
  rw [Array.getElem?_push]

section
variable {B : Nat} {Q : List Nat} {w₀ : World} {φ : Inj} {A : AHeap} {w : World}

theorem Rel.drew (R : Rel B w₀ Q φ A w) : Rel B w₀ Q φ A w.drew :=
  ⟨R.below.drew, R.base, R.fresh, R.bound, R.obj, R.own, R.sep, R.mem, R.pend⟩

/-- A new object. -/
theorem Rel.alloc (R : Rel B w₀ Q φ A w) {o : AObj} {r : Obj} {cls : Tree (List Nat)} {n : Nat}
    (ho : ORel (φ.put A.next (w.heap.size, 0) n) 0 n o r)
    (hc : ∀ c, c < A.next → cls.get c = A.cls.get c)
    (hn : ∀ c lo hi cs e, o = .row c lo hi cs e true → c = A.next ∧ cls.get A.next = some [A.next]) :
    Rel B w₀ Q (φ.put A.next (w.heap.size, 0) n) ⟨A.objs.put A.next (some o), A.next + 1, cls⟩ (w.alloc r) := by
  have hfr := R.fresh A.next (Nat.le_refl _)
  have hle : φ.le (φ.put A.next (w.heap.size, 0) n) := Inj.le_put _ _ hfr.1
  refine ⟨R.below.alloc R.base _, ?_, ?_, ?_, ?_, ?_, ?_, ?_, ?_⟩
  · have := R.base; simp; omega
  · intro b hb
    have hb' : A.next + 1 ≤ b := hb
    have hne : b ≠ A.next := by omega
    refine ⟨?_, ?_⟩
    · rw [Inj.put_ne _ _ _ hne]; exact (R.fresh b (by omega)).1
    · show (A.objs.put A.next (some o)).get b = none
      rw [Tree.get_put_ne _ _ _ hne]; exact (R.fresh b (by omega)).2
  · intro b N d hb
    by_cases hne : b = A.next
    · subst hne; rw [Inj.put_self] at hb; cases hb; simp
    · rw [Inj.put_ne _ _ _ hne] at hb
      have := R.bound b N d hb; simp; omega
  · intro b x N d hg hb
    replace hg : (A.objs.put A.next (some o)).get b = some x := hg
    by_cases hne : b = A.next
    · subst hne
      rw [Tree.get_put_self] at hg; cases hg
      rw [Inj.put_self] at hb; cases hb
      exact ⟨r, by rw [heap_push]; simp, by rw [Inj.sz_self]; exact ho⟩
    · rw [Tree.get_put_ne _ _ _ hne] at hg
      rw [Inj.put_ne _ _ _ hne] at hb
      obtain ⟨y, hy, hr⟩ := R.obj b x N d hg hb
      refine ⟨y, ?_, by rw [Inj.sz_ne _ _ _ hne]; exact hr.mono hle⟩
      rw [heap_push, if_neg (by have := R.bound b N d hb; omega)]; exact hy
  · intro b x N d hg hb hown
    replace hg : (A.objs.put A.next (some o)).get b = some x := hg
    by_cases hne : b = A.next
    · subst hne; rw [Inj.put_self] at hb; cases hb; exact R.base
    · rw [Tree.get_put_ne _ _ _ hne] at hg
      rw [Inj.put_ne _ _ _ hne] at hb
      exact R.own b x N d hg hb hown
  · intro b₁ b₂ o₁ o₂ N d₁ d₂ hne h1 h2 g1 g2 hown
    replace g1 : (A.objs.put A.next (some o)).get b₁ = some o₁ := g1
    replace g2 : (A.objs.put A.next (some o)).get b₂ = some o₂ := g2
    by_cases e1 : b₁ = A.next
    · subst e1
      rw [Inj.put_self] at h1; cases h1
      rw [Inj.put_ne _ _ _ (Ne.symm hne)] at h2
      have := R.bound b₂ _ _ h2; omega
    · by_cases e2 : b₂ = A.next
      · subst e2
        rw [Inj.put_self] at h2; cases h2
        rw [Inj.put_ne _ _ _ e1] at h1
        have := R.bound b₁ _ _ h1; omega
      · rw [Inj.put_ne _ _ _ e1] at h1; rw [Inj.put_ne _ _ _ e2] at h2
        rw [Tree.get_put_ne _ _ _ e1] at g1; rw [Tree.get_put_ne _ _ _ e2] at g2
        exact R.sep b₁ b₂ o₁ o₂ N d₁ d₂ hne h1 h2 g1 g2 hown
  · intro b c lo hi cs e hg
    replace hg : (A.objs.put A.next (some o)).get b = some _ := hg
    by_cases hne : b = A.next
    · subst hne
      rw [Tree.get_put_self] at hg; cases hg
      obtain ⟨rfl, hm⟩ := hn _ _ _ _ _ rfl
      exact ⟨by simp, [A.next], hm, by simp⟩
    · rw [Tree.get_put_ne _ _ _ hne] at hg
      obtain ⟨hlt, ms, hm, hb⟩ := R.mem b c lo hi cs e hg
      exact ⟨by show c < A.next + 1; omega, ms, by rw [← hm]; exact hc c hlt, hb⟩
  · intro b hb
    obtain ⟨h1, h2⟩ := R.pend b hb
    exact ⟨by rw [Inj.put_ne _ _ _ (by omega)]; exact h1, by show b < A.next + 1; omega⟩
end

end Go.Abs
