/- Operations that only compute. -/
import Derived.Test.YtfgefjpgmfjmjaaGreatDoorAbsEq
namespace Go.Abs
open Go.RowKit (Below)

section
variable {T : Tabs} {P : Program} {B : Nat} {Q : List Nat} {w₀ w : World} {φ : Inj} {A : AHeap}

/-- A Sem that only computes: it gives a value for an abstract one. -/
def Computes (P : Program) (φ : Inj) (w : World) (a : AV) (s : Sem Value) : Prop := ∃ v, s.run P w = .ok v w ∧ VRel φ a v

theorem intBin_run {op : BinOp} {t : TypeId} {k : IntKind} {x y : Int} {v : AV} (h : intBin op k x y = some v) (h1 : op ≠ .shl) (h2 : op ≠ .shr) :
    Computes P φ w v (Go.binOp op t (.int k x) (.int k y)) := by
  have hkk : ¬ (k ≠ k) := fun h => h rfl
  cases op <;> simp only [intBin] at h
  case quo =>
    split at h
    · cases h
    · rename_i hy; cases h
      exact ⟨.int k (k.wrap (x.tdiv y)), by simp [Go.binOp, Op.intDiv, hy], by simp only [VRel, wrapI]⟩
  case rem =>
    split at h
    · cases h
    · rename_i hy; cases h
      exact ⟨.int k (x.tmod y), by simp [Go.binOp, Op.intDiv, hy], by simp only [VRel]⟩
  case shl => exact absurd rfl h1
  case shr => exact absurd rfl h2
  all_goals
    cases h
    apply Exists.intro
    refine And.intro ?_ ?_
    · simp only [Go.binOp, if_neg hkk]; rfl
    · simp only [VRel, wrapI]

theorem shiftI_run {op : BinOp} {k k' : IntKind} {x y : Int} {v : AV} (h : shiftI op k x y = some v) : Computes P φ w v (Op.shift op k x k' y) := by
  unfold shiftI at h
  split at h
  · cases h
  · rename_i hy
    cases op <;> simp only at h <;> cases h
    · (apply Exists.intro; refine And.intro ?_ ?_; (simp only [Op.shift, if_neg hy]; rfl); simp only [VRel, wrapI])
    · (apply Exists.intro; refine And.intro ?_ ?_; (simp only [Op.shift, if_neg hy]; rfl); simp only [VRel])

theorem strBin_run {op : BinOp} {a b : ByteArray} {v : AV} (h : strBin op (bytesOf a) (bytesOf b) = some v) : Computes P φ w v (Op.stringOp op a b) := by
  cases op <;> simp only [strBin] at h
  case add =>
    cases hl : Nat.ble ((bytesOf a).length + (bytesOf b).length) 1000000000000 with
    | false => rw [hl] at h; cases h
    | true =>
      rw [hl] at h; cases h
      have hle := Nat.le_of_ble_eq_true hl
      rw [bytesOf_length, bytesOf_length] at hle
      refine ⟨.string (a ++ b), ?_, by simp only [VRel]; exact ⟨_, rfl, bytesOf_append a b⟩⟩
      have hn : ¬ (((a.size + b.size : Nat) : Int) > IntKind.i64.max) := by
        have : IntKind.i64.max = 9223372036854775807 := by decide
        rw [this]; omega
      simp only [Op.stringOp, if_neg hn]; rfl
  all_goals first
    | cases h; done
    | (cases h
       (apply Exists.intro; refine And.intro ?_ ?_; (simp only [Op.stringOp]; rfl); simp only [VRel, natsEq_bytes, natsLess_str]))

theorem VRel_nili {φ : Inj} {a : AV} (h : VRel φ a .nilIface) : a = .nili ∨ a = .any := by
  cases a <;> simp only [VRel] at h <;> first
    | exact .inl rfl | exact .inr rfl | (cases h; done) | (obtain ⟨_, h, _⟩ := h; cases h; done) | (obtain ⟨_, _, h, _⟩ := h; cases h; done) | (obtain ⟨_, _, _, h, _⟩ := h; cases h; done)
    | (obtain ⟨_, _, _, _, _, h⟩ := h; cases h; done) | (obtain ⟨_, _, _, h⟩ := h; cases h; done)
theorem VRel_agg {φ : Inj} {a : AV} {cs : Array Value} (h : VRel φ a (.agg cs)) : (∃ l, a = .agg l) ∨ a = .any := by
  cases a <;> simp only [VRel] at h <;> first
    | exact .inl ⟨_, rfl⟩ | exact .inr rfl | (cases h; done) | (obtain ⟨_, h, _⟩ := h; cases h; done) | (obtain ⟨_, _, h, _⟩ := h; cases h; done) | (obtain ⟨_, _, _, h, _⟩ := h; cases h; done)
    | (obtain ⟨_, _, _, _, _, h⟩ := h; cases h; done) | (obtain ⟨_, _, _, h⟩ := h; cases h; done)
theorem VRel_int {φ : Inj} {a : AV} {k : IntKind} {n : Int} (h : VRel φ a (.int k n)) : a = .int k n ∨ a = .any := by
  cases a <;> simp only [VRel] at h <;> first
    | (cases h; exact .inl rfl) | exact .inr rfl | (cases h; done) | (obtain ⟨_, h, _⟩ := h; cases h; done) | (obtain ⟨_, _, h, _⟩ := h; cases h; done) | (obtain ⟨_, _, _, h, _⟩ := h; cases h; done)
    | (obtain ⟨_, _, _, _, _, h⟩ := h; cases h; done) | (obtain ⟨_, _, _, h⟩ := h; cases h; done)
theorem VRel_str {φ : Inj} {a : AV} {s : ByteArray} (h : VRel φ a (.string s)) : a = .str (bytesOf s) ∨ a = .any := by
  cases a <;> simp only [VRel] at h <;> first
    | (obtain ⟨_, h, rfl⟩ := h; cases h; exact .inl rfl) | exact .inr rfl | (cases h; done) | (obtain ⟨_, h, _⟩ := h; cases h; done) | (obtain ⟨_, _, h, _⟩ := h; cases h; done) | (obtain ⟨_, _, _, h, _⟩ := h; cases h; done)
    | (obtain ⟨_, _, _, _, _, h⟩ := h; cases h; done) | (obtain ⟨_, _, _, h⟩ := h; cases h; done)

theorem VRel_float {φ : Inj} {a : AV} {k : FloatKind} {n : Nat} (h : VRel φ a (.float k n)) : a = .any := by
  cases a <;> simp only [VRel] at h <;> first
    | exact rfl | (cases h; done) | (obtain ⟨_, h, _⟩ := h; cases h; done) | (obtain ⟨_, _, h, _⟩ := h; cases h; done) | (obtain ⟨_, _, _, h, _⟩ := h; cases h; done)
    | (obtain ⟨_, _, _, _, _, h⟩ := h; cases h; done) | (obtain ⟨_, _, _, h⟩ := h; cases h; done)
theorem VRel_complex {φ : Inj} {a : AV} {k : FloatKind} {n m : Nat} (h : VRel φ a (.complex k n m)) : a = .any := by
  cases a <;> simp only [VRel] at h <;> first
    | exact rfl | (cases h; done) | (obtain ⟨_, h, _⟩ := h; cases h; done) | (obtain ⟨_, _, h, _⟩ := h; cases h; done) | (obtain ⟨_, _, _, h, _⟩ := h; cases h; done)
    | (obtain ⟨_, _, _, _, _, h⟩ := h; cases h; done) | (obtain ⟨_, _, _, h⟩ := h; cases h; done)
theorem eqGuard_ok {op : BinOp} {t : TypeId} {x y : Operand} {a b : Value} (h1 : ¬ (a = .nilIface ∧ b = .nilIface)) (h2 : ¬ ((∃ xs, a = .agg xs) ∧ ∃ ys, b = .agg ys)) :
    (eqGuard op t x y a b).run P w = .ok () w := by
  cases op
  case eql => cases a <;> cases b <;> first
      | rfl
      | exact absurd ⟨rfl, rfl⟩ h1
      | exact absurd ⟨⟨_, rfl⟩, _, rfl⟩ h2
  case neq => cases a <;> cases b <;> first
      | rfl
      | exact absurd ⟨rfl, rfl⟩ h1
      | exact absurd ⟨⟨_, rfl⟩, _, rfl⟩ h2
  all_goals simp [eqGuard]
theorem eql_ok {t : TypeId} {a b : Value} {r : Bool} (h1 : ¬ ∃ k i, a = .int k i ∧ ∃ k' j, b = .int k' j) (h2 : ¬ ∃ s, a = .string s ∧ ∃ u, b = .string u) (h3 : ¬ ∃ k i, a = .float k i) (h4 : ¬ ∃ k i j, a = .complex k i j)
    (h : (Op.equal t a b).run P w = .ok r w) : (Go.binOp .eql t a b).run P w = .ok (.bool r) w := by
  cases a <;> cases b <;> first
    | exact absurd ⟨_, _, rfl, _, _, rfl⟩ h1
    | exact absurd ⟨_, rfl, _, rfl⟩ h2
    | exact absurd ⟨_, _, rfl⟩ h3
    | exact absurd ⟨_, _, _, rfl⟩ h4
    | (simp [Go.binOp, h]; done)
theorem neq_ok {t : TypeId} {a b : Value} {r : Bool} (h1 : ¬ ∃ k i, a = .int k i ∧ ∃ k' j, b = .int k' j) (h2 : ¬ ∃ s, a = .string s ∧ ∃ u, b = .string u) (h3 : ¬ ∃ k i, a = .float k i) (h4 : ¬ ∃ k i j, a = .complex k i j)
    (h : (Op.equal t a b).run P w = .ok r w) : (Go.binOp .neq t a b).run P w = .ok (.bool (!r)) w := by
  cases a <;> cases b <;> first
    | exact absurd ⟨_, _, rfl, _, _, rfl⟩ h1
    | exact absurd ⟨_, rfl, _, rfl⟩ h2
    | exact absurd ⟨_, _, rfl⟩ h3
    | exact absurd ⟨_, _, _, rfl⟩ h4
    | (simp [Go.binOp, h]; done)

/-- A binary operation with the guard ahead of it. -/
theorem binOp_run (H : T.Ok P) (R : Rel B w₀ Q φ A w) {op : BinOp} {t : TypeId} {x y : Operand} {a b : AV} {a' b' : Value} {v : AV} (h : binOp T A op t (isConst x) (isConst y) a b = some v)
    (ha : VRel φ a a') (hb : VRel φ b b') : Computes P φ w v (do eqGuard op t x y a' b'; Go.binOp op t a' b') := by
  unfold binOp at h
  split at h
  · -- numbers
    rename_i k i k' j
    simp only [VRel] at ha hb; subst ha; subst hb
    have hg : (eqGuard op t x y (.int k i) (.int k' j)).run P w = .ok () w := by cases op <;> simp [eqGuard]
    split at h
    · obtain ⟨u, hu, hr⟩ := shiftI_run (P := P) (φ := φ) (w := w) (k' := k') h
      exact ⟨u, by simp [hg, Go.binOp, hu], hr⟩
    · obtain ⟨u, hu, hr⟩ := shiftI_run (P := P) (φ := φ) (w := w) (k' := k') h
      exact ⟨u, by simp [hg, Go.binOp, hu], hr⟩
    · rename_i h1 h2
      cases hk : kindEq k k' with
      | false => rw [hk] at h; cases h
      | true =>
        rw [hk] at h
        obtain rfl := (kindEq_iff _ _).1 hk
        obtain ⟨u, hu, hr⟩ := intBin_run (t := t) (P := P) (φ := φ) (w := w) h h1 h2
        exact ⟨u, by simp [hg, hu], hr⟩
  · simp only [VRel] at ha hb
    obtain ⟨s, rfl, rfl⟩ := ha
    obtain ⟨u, rfl, rfl⟩ := hb
    obtain ⟨z, hz, hr⟩ := strBin_run (P := P) (φ := φ) (w := w) h
    have hg : (eqGuard op t x y (.string s) (.string u)).run P w = .ok () w := by cases op <;> simp [eqGuard]
    refine ⟨z, ?_, hr⟩
    have hb : Go.binOp op t (.string s) (.string u) = Op.stringOp op s u := by cases op <;> rfl
    rw [hb]; simp [hg, hz]
  · -- nil interface values
    simp only [VRel] at ha hb; subst ha; subst hb
    cases hc : isConst x || isConst y with
    | false => rw [hc] at h; cases h
    | true =>
      rw [hc] at h
      simp only [cond_true] at h
      have hg : (eqGuard op t x y .nilIface .nilIface).run P w = .ok () w := by
        cases x <;> cases y <;> simp [isConst] at hc <;> cases op <;> simp [eqGuard]
      split at h
      · split at h
        · rename_i r hr; cases h
          have := equal_run H R hr (x' := .nilIface) (y' := .nilIface) (by simp only [VRel]) (by simp only [VRel])
          exact ⟨_, by simp [hg, Go.binOp, this]; rfl, by simp only [VRel]⟩
        · cases h
      · split at h
        · rename_i r hr; cases h
          have := equal_run H R hr (x' := .nilIface) (y' := .nilIface) (by simp only [VRel]) (by simp only [VRel])
          exact ⟨_, by simp [hg, Go.binOp, this]; rfl, by simp only [VRel]⟩
        · cases h
      · cases h
  · -- structs
    split at h
    · rename_i hp
      have h1 := ha; have h2 := hb
      simp only [VRel] at h1 h2
      obtain ⟨xs, rfl, _⟩ := h1
      obtain ⟨ys, rfl, _⟩ := h2
      have hg := run_eqGuard_agg (P := P) w op t x y xs ys (H.plain t hp).1
      split at h
      · split at h
        · rename_i r hr; cases h
          have := equal_run H R hr ha hb
          exact ⟨_, by simp [hg, Go.binOp, this]; rfl, by simp only [VRel]⟩
        · cases h
      · split at h
        · rename_i r hr; cases h
          have := equal_run H R hr ha hb
          exact ⟨_, by simp [hg, Go.binOp, this]; rfl, by simp only [VRel]⟩
        · cases h
      · cases h
    · cases h
  · -- all others: == and != alone
    rename_i n1 n2 n3 n4
    have noAny : ∀ r, equalIn T A 10000 t a b = some r → a ≠ .any ∧ b ≠ .any := by
      intro r hr
      constructor
      · rintro rfl; simp [equalIn] at hr
      · rintro rfl; cases a <;> simp [equalIn] at hr
    have guard : ∀ op' r, equalIn T A 10000 t a b = some r → (eqGuard op' t x y a' b').run P w = .ok () w := by
      intro op' r hr
      obtain ⟨na, nb⟩ := noAny r hr
      refine eqGuard_ok ?_ ?_
      · rintro ⟨rfl, rfl⟩
        exact n3 ((VRel_nili ha).resolve_right na) ((VRel_nili hb).resolve_right nb)
      · rintro ⟨⟨xs, rfl⟩, ys, rfl⟩
        obtain ⟨l, hl⟩ := (VRel_agg ha).resolve_right na
        obtain ⟨m, hm⟩ := (VRel_agg hb).resolve_right nb
        exact n4 _ _ hl hm
    have plainEq : ∀ r, equalIn T A 10000 t a b = some r → (Go.binOp .eql t a' b').run P w = .ok (.bool r) w := by
      intro r hr
      have he := equal_run H R hr ha hb
      refine eql_ok ?_ ?_ ?_ ?_ he
      · rintro ⟨k, i, rfl, k', j, rfl⟩
        exact n1 _ _ _ _ ((VRel_int ha).resolve_right (noAny r hr).1) ((VRel_int hb).resolve_right (noAny r hr).2)
      · rintro ⟨s, rfl, u, rfl⟩
        exact n2 _ _ ((VRel_str ha).resolve_right (noAny r hr).1) ((VRel_str hb).resolve_right (noAny r hr).2)
      · rintro ⟨k, i, rfl⟩; exact (noAny r hr).1 (VRel_float ha)
      · rintro ⟨k, i, j, rfl⟩; exact (noAny r hr).1 (VRel_complex ha)
    have plainNe : ∀ r, equalIn T A 10000 t a b = some r → (Go.binOp .neq t a' b').run P w = .ok (.bool (!r)) w := by
      intro r hr
      have he := equal_run H R hr ha hb
      refine neq_ok ?_ ?_ ?_ ?_ he
      · rintro ⟨k, i, rfl, k', j, rfl⟩
        exact n1 _ _ _ _ ((VRel_int ha).resolve_right (noAny r hr).1) ((VRel_int hb).resolve_right (noAny r hr).2)
      · rintro ⟨s, rfl, u, rfl⟩
        exact n2 _ _ ((VRel_str ha).resolve_right (noAny r hr).1) ((VRel_str hb).resolve_right (noAny r hr).2)
      · rintro ⟨k, i, rfl⟩; exact (noAny r hr).1 (VRel_float ha)
      · rintro ⟨k, i, j, rfl⟩; exact (noAny r hr).1 (VRel_complex ha)
    split at h
    · split at h
      · rename_i r hr; cases h
        exact ⟨.bool r, by simp only [Sem.run_bind, guard _ r hr, Result.andThen_ok, plainEq r hr], by simp only [VRel]⟩
      · cases h
    · split at h
      · rename_i r hr; cases h
        exact ⟨.bool (!r), by simp only [Sem.run_bind, guard _ r hr, Result.andThen_ok, plainNe r hr], by simp only [VRel]⟩
      · cases h
    · cases h

theorem unOp_run {op : UnOp} {a : AV} {a' : Value} {v : AV} (h : unOp op a = some v) (ha : VRel φ a a') : Computes P φ w v (Op.unary op a') := by
  unfold unOp at h
  split at h
  · cases h
    simp only [VRel] at ha; subst ha
    (apply Exists.intro; refine And.intro ?_ ?_; (simp only [Op.unary, Op.intArith]; rfl); simp only [VRel, wrapI])
  · cases h
    simp only [VRel] at ha; subst ha
    (apply Exists.intro; refine And.intro ?_ ?_; (simp only [Op.unary]; rfl); simp only [VRel])
  · rename_i k n
    simp only [VRel] at ha; subst ha
    simp only [intBin] at h; cases h
    (apply Exists.intro; refine And.intro ?_ ?_; (simp only [Op.unary, Op.intBits]; rfl); simp only [VRel, wrapI])
  · cases h

/-! Slicing, fields, elements -/

theorem bound_run {x : AV} {x' : Value} {y n : Nat} (code : BoundsCode) (h : bound x y = some n) (hx : VRel φ x x') : (Instr.sliceBound x' y code).run P w = .ok n w ∧ n ≤ y := by
  unfold bound at h
  split at h
  · rename_i k m
    cases hb : Nat.ble m y with
    | false => rw [hb] at h; cases h
    | true =>
      rw [hb] at h; cases h
      simp only [VRel] at hx; subst hx
      have hle := Nat.le_of_ble_eq_true hb
      refine ⟨?_, hle⟩
      have hc : (0 : Int) ≤ Int.ofNat n ∧ Int.ofNat n ≤ (y : Int) := ⟨Int.natCast_nonneg n, by simpa using hle⟩
      simp only [Instr.sliceBound, asIntOf, Sem.run_bind, Sem.run_pure, Result.andThen_ok, if_pos hc]
      rfl
  · cases h

def ORelOpt (φ : Inj) : Option AV → Option Value → Prop
  | none, none => True
  | some a, some v => VRel φ a v
  | _, _ => False

/-- The three bounds of a slice. -/
theorem bounds_run {isSlice : Bool} {len cap l h m : Nat} {lo hi mx : Option AV} {lo' hi' mx' : Option Value} (hm : boundOr mx cap cap = some m) (hh : boundOr hi m len = some h) (hl : boundOr lo h 0 = some l)
    (rl : ORelOpt φ lo lo') (rh : ORelOpt φ hi hi') (rm : ORelOpt φ mx mx') (hne : mx ≠ none → hi ≠ none) :
    (Instr.sliceBounds isSlice len cap lo' hi' mx').run P w = .ok (l, h, m) w ∧ l ≤ h ∧ (mx ≠ none → m ≤ cap) ∧ (mx = none → m = cap) ∧ (hi ≠ none → h ≤ m) ∧ (hi = none → h = len) := by
  cases mx with
  | none =>
    cases mx' with
    | some v => exact rm.elim
    | none =>
      simp only [boundOr] at hm; cases hm
      cases hi with
      | none =>
        cases hi' with
        | some v => exact rh.elim
        | none =>
          simp only [boundOr] at hh; cases hh
          cases lo with
          | none =>
            cases lo' with
            | some v => exact rl.elim
            | none =>
              simp only [boundOr] at hl; cases hl
              exact ⟨rfl, Nat.zero_le _, fun h => absurd rfl h, fun _ => rfl, fun h => absurd rfl h, fun _ => rfl⟩
          | some a =>
            cases lo' with
            | none => exact rl.elim
            | some v =>
              obtain ⟨h1, h2⟩ := bound_run (P := P) (w := w) .sliceB hl rl
              exact ⟨by simp [Instr.sliceBounds, h1], h2, fun h => absurd rfl h, fun _ => rfl, fun h => absurd rfl h, fun _ => rfl⟩
      | some b =>
        cases hi' with
        | none => exact rh.elim
        | some vb =>
          obtain ⟨g1, g2⟩ := bound_run (P := P) (w := w) (if isSlice then .sliceAcap else .sliceAlen) hh rh
          cases lo with
          | none =>
            cases lo' with
            | some v => exact rl.elim
            | none =>
              simp only [boundOr] at hl; cases hl
              exact ⟨by simp [Instr.sliceBounds, g1], Nat.zero_le _, fun h => absurd rfl h, fun _ => rfl, fun _ => g2, fun h => by cases h⟩
          | some a =>
            cases lo' with
            | none => exact rl.elim
            | some v =>
              obtain ⟨h1, h2⟩ := bound_run (P := P) (w := w) .sliceB hl rl
              exact ⟨by simp [Instr.sliceBounds, g1, h1], h2, fun h => absurd rfl h, fun _ => rfl, fun _ => g2, fun h => by cases h⟩
  | some c =>
    cases mx' with
    | none => exact rm.elim
    | some vc =>
      obtain ⟨k1, k2⟩ := bound_run (P := P) (w := w) (if isSlice then .slice3Acap else .slice3Alen) hm rm
      cases hi with
      | none => exact absurd rfl (hne (by simp))
      | some b =>
        cases hi' with
        | none => exact rh.elim
        | some vb =>
          obtain ⟨g1, g2⟩ := bound_run (P := P) (w := w) .slice3B hh rh
          cases lo with
          | none =>
            cases lo' with
            | some v => exact rl.elim
            | none =>
              simp only [boundOr] at hl; cases hl
              exact ⟨by simp [Instr.sliceBounds, k1, g1], Nat.zero_le _, fun _ => k2, (fun h => by cases h), fun _ => g2, fun h => by cases h⟩
          | some a =>
            cases lo' with
            | none => exact rl.elim
            | some v =>
              obtain ⟨h1, h2⟩ := bound_run (P := P) (w := w) .slice3C hl rl
              exact ⟨by simp [Instr.sliceBounds, k1, g1, h1], h2, fun _ => k2, (fun h => by cases h), fun _ => g2, fun h => by cases h⟩

theorem bound_mono {x : AV} {y y' n : Nat} (h : bound x y = some n) (hy : y ≤ y') : bound x y' = some n := by
  unfold bound at h ⊢
  split at h
  · rename_i k m
    cases hb : Nat.ble m y with
    | false => rw [hb] at h; cases h
    | true =>
      rw [hb] at h; cases h
      have := Nat.le_of_ble_eq_true hb
      rw [Nat.ble_eq_true_of_le (by omega)]; rfl
  · cases h

theorem slice_run (H : T.Ok P) {t : TypeId} {x : AV} {x' : Value} {lo hi mx : Option AV} {lo' hi' mx' : Option Value} {v : AV} (h : slice T t x lo hi mx = some v) (hx : VRel φ x x')
    (rl : ORelOpt φ lo lo') (rh : ORelOpt φ hi hi') (rm : ORelOpt φ mx mx') : Computes P φ w v (Instr.sliceAt t x' lo' hi' mx') := by
  unfold slice at h
  cases hmo : maxOk hi mx with
  | false => rw [hmo] at h; cases h
  | true =>
    rw [hmo] at h
    have hne : mx ≠ none → hi ≠ none := by
      intro hm hh; subst hh
      cases mx with
      | none => exact hm rfl
      | some _ => simp [maxOk] at hmo
    replace h : sliceIn T t x lo hi mx = some v := h
    unfold sliceIn at h
    split at h
    · -- a text
      rename_i s
      split at h
      · rename_i hu
        cases hh : boundOr hi s.length s.length with
        | none => rw [hh] at h; cases h
        | some hv =>
          rw [hh] at h
          simp only at h
          cases hl : boundOr lo hv 0 with
          | none => rw [hl] at h; cases h
          | some lv =>
            rw [hl] at h; cases h
            simp only [VRel] at hx
            obtain ⟨u, rfl, rfl⟩ := hx
            cases mx' with
            | some _ => exact rm.elim
            | none =>
              rw [bytesOf_length] at hh
              have hb := (bounds_run (P := P) (w := w) (φ := φ) (isSlice := false) (len := u.size) (cap := u.size) (mx := none) (mx' := none) (m := u.size) rfl hh hl rl rh trivial (fun h => absurd rfl h)).1
              refine ⟨.string (u.extract lv hv), ?_, by simp only [VRel]; exact ⟨_, rfl, bytesOf_extract _ _ _⟩⟩
              simp [Instr.sliceAt, Instr.slice, H.run_und hu, hb]
      · cases h
    · -- a slice
      rename_i b o len cap ex es
      split at h
      · rename_i elem hu
        split at h
        · rename_i n m hn hm
          cases hh : boundOr hi m len with
          | none => rw [hh] at h; cases h
          | some hv =>
            rw [hh] at h
            simp only at h
            cases hl : boundOr lo hv 0 with
            | none => rw [hl] at h; cases h
            | some lv =>
              rw [hl] at h
              simp only at h
              cases hhm : Nat.ble hv m && (ex || mx.isSome || Nat.beq n es) with
              | false => rw [hhm] at h; cases h
              | true =>
                rw [hhm] at h; cases h
                simp only [Bool.and_eq_true] at hhm
                obtain ⟨hhm, hes⟩ := hhm
                have hvm := Nat.le_of_ble_eq_true hhm
                simp only [VRel] at hx
                obtain ⟨a, c, rfl, h1, h2, h3, h4⟩ := hx
                have hlv : lv ≤ hv := by
                  cases lo with
                  | none => simp only [boundOr] at hl; cases hl; exact Nat.zero_le _
                  | some q => cases lo' with
                    | none => exact rl.elim
                    | some lq => exact (bound_run (P := P) (w := w) (φ := φ) .sliceB hl rl).2
                -- the bounds, as the model sees them
                cases hmx : mx with
                | none =>
                  subst hmx
                  cases mx' with
                  | some _ => exact rm.elim
                  | none =>
                    simp only [boundOr] at hm; cases hm
                    have hh' : boundOr hi c len = some hv := by
                      cases hi with
                      | none => exact hh
                      | some q => exact bound_mono hh h2
                    have hb := (bounds_run (P := P) (w := w) (φ := φ) (isSlice := true) (len := len) (cap := c) (mx := none) (mx' := none) (m := c) rfl hh' hl rl rh trivial (fun h => absurd rfl h)).1
                    refine ⟨.slice (if c = lv then some a else some (a.add (lv * n))) (hv - lv) (c - lv), ?_, ?_⟩
                    · simp [Instr.sliceAt, Instr.slice, H.run_und hu, hb, H.run_size hn]
                    · simp only [VRel]
                      refine ⟨if c = lv then a else a.add (lv * n), c - lv, ?_, by omega, by omega, ?_, ?_⟩
                      · split <;> rfl
                      · intro he
                        simp only [Option.isSome_none, Bool.or_false] at he
                        rw [h3 he]
                      · intro hc
                        obtain ⟨N, d, off, f, e, rfl, hsz⟩ := h4 (by omega)
                        refine ⟨N, d, off + lv * n, f, by push_cast; omega, ?_, ?_⟩
                        · rw [if_neg (by omega), addr_add]
                        · intro he
                          simp only [Option.isSome_none, Bool.or_false] at he hes
                          rw [he, Bool.false_or] at hes
                          have hns := Nat.eq_of_beq_eq_true hes
                          subst hns
                          have := hsz he
                          have h5 : (c - lv) * n + lv * n = c * n := by rw [← Nat.add_mul]; congr 1; omega
                          omega
                | some q =>
                  subst hmx
                  cases mx' with
                  | none => exact rm.elim
                  | some vq =>
                    have hm' : boundOr (some q) c c = some m := bound_mono hm h2
                    have hmc : m ≤ cap := (bound_run (P := P) (w := w) (φ := φ) .slice3Acap hm rm).2
                    have hb := (bounds_run (P := P) (w := w) (φ := φ) (isSlice := true) (len := len) (cap := c) hm' hh hl rl rh rm hne).1
                    refine ⟨.slice (if m = lv then some a else some (a.add (lv * n))) (hv - lv) (m - lv), ?_, ?_⟩
                    · simp [Instr.sliceAt, Instr.slice, H.run_und hu, hb, H.run_size hn]
                    · simp only [VRel]
                      refine ⟨if m = lv then a else a.add (lv * n), m - lv, ?_, by omega, by omega, fun _ => rfl, ?_⟩
                      · split <;> rfl
                      · intro hc
                        obtain ⟨N, d, off, f, e, rfl, hsz⟩ := h4 (by omega)
                        refine ⟨N, d, off + lv * n, f, by push_cast; omega, ?_, ?_⟩
                        · rw [if_neg (by omega), addr_add]
                        · intro he; simp at he
        · cases h
      · cases h
    · -- nil
      split at h
      · rename_i elem hu
        cases hm : boundOr mx 0 0 with
        | none => rw [hm] at h; cases h
        | some m =>
          rw [hm] at h
          simp only at h
          cases hh : boundOr hi m 0 with
          | none => rw [hh] at h; cases h
          | some hv =>
            rw [hh] at h
            simp only at h
            cases hl : boundOr lo hv 0 with
            | none => rw [hl] at h; cases h
            | some lv =>
              rw [hl] at h
              simp only at h
              split at h
              · rename_i n hn
                cases h
                simp only [VRel] at hx; subst hx
                have hb := bounds_run (P := P) (w := w) (φ := φ) (isSlice := true) (len := 0) (cap := 0) hm hh hl rl rh rm hne
                have hm0 : m = 0 := by
                  cases mx with
                  | none => exact hb.2.2.2.1 rfl
                  | some q => have := hb.2.2.1 (by simp); omega
                have hv0 : hv = 0 := by
                  cases hi with
                  | none => exact hb.2.2.2.2.2 rfl
                  | some q => have := hb.2.2.2.2.1 (by simp); omega
                have hl0 : lv = 0 := by have := hb.2.1; omega
                subst hm0; subst hv0; subst hl0
                refine ⟨.slice none 0 0, ?_, by simp only [VRel]⟩
                simp [Instr.sliceAt, Instr.slice, H.run_und hu, hb.1, H.run_size hn]
              · cases h
      · cases h
    · -- an array's address
      rename_i b o
      split at h
      · rename_i n elem hu
        split at h
        · rename_i sz m hsz hm
          cases hh : boundOr hi m n with
          | none => rw [hh] at h; cases h
          | some hv =>
            rw [hh] at h
            simp only at h
            cases hl : boundOr lo hv 0 with
            | none => rw [hl] at h; cases h
            | some lv =>
              rw [hl] at h
              simp only at h
              cases hhm : Nat.ble hv m with
              | false => rw [hhm] at h; cases h
              | true =>
                rw [hhm] at h; cases h
                have hvm := Nat.le_of_ble_eq_true hhm
                simp only [VRel] at hx
                obtain ⟨N, d, off, f, e, rfl⟩ := hx
                have hb := bounds_run (P := P) (w := w) (φ := φ) (isSlice := false) (len := n) (cap := n) hm hh hl rl rh rm hne
                have hlv := hb.2.1
                refine ⟨.slice (some (if m = lv then ⟨N, off, none⟩ else (⟨N, off, none⟩ : Addr).add (lv * sz))) (hv - lv) (m - lv), ?_, ?_⟩
                · simp [Instr.sliceAt, Instr.sureAddr, H.run_und hu, hb.1, H.run_size hsz]
                · simp only [VRel]
                  refine ⟨_, m - lv, rfl, by omega, Nat.le_refl _, fun _ => rfl, ?_⟩
                  intro hc
                  refine ⟨N, d, off + lv * sz, f, by push_cast; omega, ?_, fun he => by cases he⟩
                  rw [if_neg (by omega), addr_add]
        · cases h
      · cases h
    · cases h

theorem indexAddr_run (H : T.Ok P) {t : TypeId} {x i : AV} {x' i' : Value} {v : AV} (h : indexAddr T t x i = some v) (hx : VRel φ x x') (hi : VRel φ i i') :
    Computes P φ w v (Instr.indexAt t x' i') := by
  unfold indexAddr at h
  split at h
  · rename_i k n
    simp only [VRel] at hi; subst hi
    split at h
    · rename_i b o len cap ex es
      split at h
      · rename_i elem hu
        split at h
        · rename_i sz hsz
          cases hb : Nat.blt n len with
          | false => rw [hb] at h; cases h
          | true =>
            rw [hb] at h; cases h
            have hlt : n < len := Nat.le_of_ble_eq_true hb
            simp only [VRel] at hx
            obtain ⟨a, c, rfl, h1, h2, h3, h4⟩ := hx
            obtain ⟨N, d, off, f, e, rfl, _⟩ := h4 (by omega)
            refine ⟨.pointer (some ⟨N, off + n * sz, none⟩), ?_, ?_⟩
            · have hc : (0 : Int) ≤ Int.ofNat n ∧ Int.ofNat n < (len : Int) := ⟨Int.natCast_nonneg n, by simpa using hlt⟩
              simp [Instr.indexAt, asIntOf, H.run_und hu, H.run_size hsz, hlt, addr_add]
            · simp only [VRel]
              exact ⟨N, d, off + n * sz, f, by push_cast; omega, rfl⟩
        · cases h
      · cases h
    · rename_i b o
      split at h
      · rename_i len elem hu
        split at h
        · rename_i sz hsz
          cases hb : Nat.blt n len with
          | false => rw [hb] at h; cases h
          | true =>
            rw [hb] at h; cases h
            have hlt : n < len := Nat.le_of_ble_eq_true hb
            simp only [VRel] at hx
            obtain ⟨N, d, off, f, e, rfl⟩ := hx
            refine ⟨.pointer (some ⟨N, off + n * sz, none⟩), ?_, ?_⟩
            · simp [Instr.indexAt, Instr.sureAddr, asIntOf, H.run_und hu, H.run_size hsz, hlt, addr_add]
            · simp only [VRel]
              exact ⟨N, d, off + n * sz, f, by push_cast; omega, rfl⟩
        · cases h
      · cases h
    · cases h
  · cases h

theorem index_run (H : T.Ok P) {t : TypeId} {x i : AV} {x' i' : Value} {v : AV} (h : index T t x i = some v) (hx : VRel φ x x') (hi : VRel φ i i') :
    Computes P φ w v (Instr.index t x' i') := by
  unfold index at h
  split at h
  · rename_i k n
    simp only [VRel] at hi; subst hi
    split at h
    · rename_i s
      split at h
      · rename_i hu
        split at h
        · rename_i c hc
          cases h
          simp only [VRel] at hx
          obtain ⟨u, rfl, rfl⟩ := hx
          obtain ⟨b, hb, rfl⟩ := bytesOf_get hc
          refine ⟨.int .u8 b.toNat, ?_, by simp only [VRel]⟩
          have hn : (0 : Int) ≤ Int.ofNat n := Int.natCast_nonneg n
          have ht : (Int.ofNat n).toNat = n := rfl
          simp only [Instr.index, asIntOf, Sem.run_bind, Sem.run_pure, Result.andThen_ok, H.run_und hu, if_pos hn, ht, hb]
        · cases h
      · cases h
    · rename_i cs
      split at h
      · rename_i len elem hu
        split at h
        · rename_i sz hsz
          cases hb : Nat.blt n len with
          | false => rw [hb] at h; cases h
          | true =>
            rw [hb] at h
            simp only [cond_true] at h
            have hlt : n < len := Nat.le_of_ble_eq_true hb
            simp only [VRel] at hx
            obtain ⟨cs', rfl, hx⟩ := hx
            obtain ⟨v', hv', hr⟩ := part_run (w := w) H hx h
            refine ⟨v', ?_, hr⟩
            simp [Instr.index, asIntOf, H.run_und hu, H.run_size hsz, hlt, hv']
        · cases h
      · cases h
    · cases h
  · cases h

theorem fieldAddr_run (H : T.Ok P) {t : TypeId} {x : AV} {x' : Value} {n : Nat} {v : AV} (h : fieldAddr T t x n = some v) (hx : VRel φ x x') : Computes P φ w v (Instr.fieldAt t x' n) := by
  unfold fieldAddr at h
  split at h
  · rename_i b o
    split at h
    · rename_i fields hu
      split at h
      · rename_i f hf
        split at h
        · rename_i m hm
          cases h
          rw [nth_eq] at hf
          simp only [VRel] at hx
          obtain ⟨N, d, off, g, e, rfl⟩ := hx
          refine ⟨.pointer (some ⟨N, off + f.offset, none⟩), ?_, ?_⟩
          · have hf' : (⟨fields⟩ : Array Field)[n]? = some f := by simpa using hf
            simp [Instr.fieldAt, H.run_und hu, hf', Instr.sureAddr, fieldPlace, H.run_size hm, addr_add]
          · simp only [VRel]
            exact ⟨N, d, off + f.offset, g, by push_cast; omega, rfl⟩
        · cases h
      · cases h
    · cases h
  · cases h

theorem field_run (H : T.Ok P) {t : TypeId} {x : AV} {x' : Value} {n : Nat} {v : AV} (h : fieldOf T t x n = some v) (hx : VRel φ x x') : Computes P φ w v (Instr.field t x' n) := by
  unfold fieldOf at h
  split at h
  · rename_i cs
    split at h
    · rename_i fields hu
      split at h
      · rename_i f hf
        rw [nth_eq] at hf
        simp only [VRel] at hx
        obtain ⟨cs', rfl, hx⟩ := hx
        obtain ⟨v', hv', hr⟩ := part_run (w := w) H hx h
        have hf' : (⟨fields⟩ : Array Field)[n]? = some f := by simpa using hf
        exact ⟨v', by simp [Instr.field, H.run_und hu, hf', asAgg, hv'], hr⟩
      · cases h
    · cases h
  · cases h

theorem typeAssert_run (H : T.Ok P) {x : AV} {x' : Value} {xt t : TypeId} {ok : Bool} {v : AV} (h : typeAssert T x t ok = some v) (hx : VRel φ x x') : Computes P φ w v (Instr.typeAssert x' xt t ok) := by
  unfold typeAssert at h
  split at h
  · cases h
  · rename_i d u a hn hu
    simp only [VRel] at hx
    obtain ⟨y, rfl, hy⟩ := hx
    cases hb : Nat.beq u t with
    | true =>
      rw [hb] at h
      obtain rfl := Nat.eq_of_beq_eq_true hb
      simp only [cond_true] at h
      cases h
      cases ok with
      | true =>
        refine ⟨.tuple #[y, .bool true], ?_, ?_⟩
        · simp only [Instr.typeAssert, Sem.run_bind, H.run_und hu, Result.andThen_ok]
          cases d <;> first | exact absurd rfl (hn _) | rfl | simp
        · simp only [cond_true, VRel, LRel]
          exact ⟨_, rfl, y, _, rfl, hy, _, _, rfl, rfl, rfl⟩
      | false =>
        refine ⟨y, ?_, hy⟩
        simp only [Instr.typeAssert, Sem.run_bind, H.run_und hu, Result.andThen_ok]
        cases d <;> first | exact absurd rfl (hn _) | rfl | simp
    | false =>
      rw [hb] at h
      simp only [cond_false] at h
      have hne : u ≠ t := by rintro rfl; rw [Nat.beq_refl] at hb; cases hb
      cases ok with
      | false => cases h
      | true =>
        simp only [cond_true] at h
        split at h
        · rename_i z hz
          cases h
          obtain ⟨zv, hzv, hzr⟩ := H.run_zero (w := w) hz
          refine ⟨.tuple #[zv, .bool false], ?_, ?_⟩
          · simp only [Instr.typeAssert, Sem.run_bind, H.run_und hu, Result.andThen_ok]
            cases d <;> first | exact absurd rfl (hn _) | simp [hne, hzv]
          · simp only [VRel, LRel]
            exact ⟨_, rfl, zv, _, rfl, hzr φ, _, _, rfl, rfl, rfl⟩
        · cases h
  · rename_i d hn hu
    simp only [VRel] at hx; subst hx
    cases ok with
    | false => cases h
    | true =>
      simp only [cond_true] at h
      split at h
      · rename_i z hz
        cases h
        obtain ⟨zv, hzv, hzr⟩ := H.run_zero (w := w) hz
        refine ⟨.tuple #[zv, .bool false], ?_, ?_⟩
        · simp only [Instr.typeAssert, Sem.run_bind, H.run_und hu, Result.andThen_ok]
          cases d <;> first | exact absurd rfl (hn _) | simp [hzv]
        · simp only [VRel, LRel]
          exact ⟨_, rfl, zv, _, rfl, hzr φ, _, _, rfl, rfl, rfl⟩
      · cases h
  · cases h

theorem extract_run {x : List AV} {x' : Value} {n : Nat} {v : AV} (h : nth x n = some v) (hx : VRel φ (.tup x) x') : Computes P φ w v (Instr.extract x' n) := by
  simp only [VRel] at hx
  obtain ⟨cs, rfl, hc⟩ := hx
  obtain ⟨v', hv', hr⟩ := hc.nth h
  have : cs[n]? = some v' := by simpa using hv'
  exact ⟨v', by simp [Instr.extract, this], hr⟩

/-! Structs that are built -/

theorem LRel.append : ∀ {a b : List AV} {a' b' : List Value}, LRel φ a a' → LRel φ b b' → LRel φ (a ++ b) (a' ++ b')
  | [], b, a', b', h, k => by simp only [LRel] at h; subst h; exact k
  | x :: a, b, a', b', h, k => by
    simp only [LRel] at h
    obtain ⟨v, y, rfl, hv, hy⟩ := h
    simp only [List.cons_append, LRel]
    exact ⟨v, _, rfl, hv, LRel.append hy k⟩

theorem over_nil {α : Type} : ∀ (l : List α) (p : Nat), p ≤ l.length → over l p [] = l
  | l, 0, _ => by cases l <;> simp [over, dropN]
  | [], p + 1, h => by simp at h
  | a :: l, p + 1, h => by simp only [over]; rw [over_nil l p (by simpa using h)]
theorem over_cons {α : Type} : ∀ (l : List α) (p : Nat) (v : α) (vs : List α), p + 1 + vs.length ≤ l.length → over l p (v :: vs) = over (l.set p v) (p + 1) vs
  | [], p, v, vs, h => by simp at h
  | a :: l, 0, v, vs, h => by
    simp only [over, List.set_cons_zero, List.length_cons, dropN]
    cases l <;> simp
  | a :: l, p + 1, v, vs, h => by
    simp only [over, List.set_cons_succ]
    rw [over_cons l p v vs (by simp at h; omega)]
theorem foldl_over (vs : List Value) : ∀ (off j : Nat) (cells : Array Value), off + j + vs.length ≤ cells.size →
    ((vs.zipIdx j).foldl (fun (cs : Array Value) (x : Value × Nat) => cs.setIfInBounds (off + x.2) x.1) cells).toList = over cells.toList (off + j) vs := by
  induction vs with
  | nil => intro off j cells h; rw [over_nil _ _ (by simpa using h)]; rfl
  | cons v vs ih =>
    intro off j cells h
    simp only [List.length_cons] at h
    rw [List.zipIdx_cons, List.foldl_cons, ih off (j + 1) _ (by simp; omega), over_cons _ _ _ _ (by simp; omega)]
    rw [Array.toList_setIfInBounds]
    rfl
theorem over_rel : ∀ (off : Nat) {cells vs : List AV} {cells' vs' : List Value}, LRel φ cells cells' → LRel φ vs vs' → LRel φ (over cells off vs) (over cells' off vs')
  | 0, cells, vs, cells', vs', hc, hv => by
    have e1 : over cells 0 vs = vs ++ dropN vs.length cells := by cases cells <;> rfl
    have e2 : over cells' 0 vs' = vs' ++ dropN vs'.length cells' := by cases cells' <;> rfl
    rw [e1, e2, hv.length]
    have hd := hc.drop vs.length
    rw [← dropN_eq] at hd
    exact LRel.append hv hd
  | off + 1, [], vs, cells', vs', hc, hv => by
    simp only [LRel] at hc; subst hc
    simp only [over, LRel]
  | off + 1, a :: cells, vs, cells', vs', hc, hv => by
    simp only [LRel] at hc
    obtain ⟨x, y, rfl, hx, hy⟩ := hc
    simp only [over, LRel]
    exact ⟨x, _, rfl, hx, over_rel off hy hv⟩

def PRel (φ : Inj) : List (Nat × AV) → List (Nat × Value) → Prop
  | [], l => l = []
  | (i, a) :: r, l => ∃ v y, l = (i, v) :: y ∧ VRel φ a v ∧ a ≠ .any ∧ PRel φ r y

theorem fill_run {place : Nat → Option (Nat × Nat)} : ∀ {parts : List (Nat × AV)} {parts' : List (Nat × Value)} {cells : List AV} {cells' : Array Value} {out : List AV}, PRel φ parts parts' → LRel φ cells cells'.toList →
    fill place cells parts = some out → ∃ out', Instr.fill place cells' parts' = some out' ∧ LRel φ out out'.toList
  | [], parts', cells, cells', out, hp, hc, h => by
    simp only [PRel] at hp; subst hp
    simp only [fill] at h; cases h
    exact ⟨cells', rfl, hc⟩
  | (i, a) :: r, parts', cells, cells', out, hp, hc, h => by
    simp only [PRel] at hp
    obtain ⟨v, y, rfl, hv, ha, hy⟩ := hp
    simp only [fill] at h
    split at h
    · cases h
    · rename_i off size hpl
      cases hb : Nat.beq a.cells.length size && Nat.ble (off + size) cells.length with
      | false => rw [hb] at h; cases h
      | true =>
        rw [hb] at h
        simp only [cond_true] at h
        simp only [Bool.and_eq_true] at hb
        have h1 := Nat.eq_of_beq_eq_true hb.1
        have h2 := Nat.le_of_ble_eq_true hb.2
        have hcs := cells_rel hv ha
        have hl := hcs.length
        have hl' := hc.length
        simp only [Array.length_toList] at hl hl'
        have hov := over_rel off hc hcs
        have hfold := foldl_over v.cells.toList off 0 cells' (by simp only [Array.length_toList]; omega)
        obtain ⟨out', ho, hr⟩ := fill_run (place := place) (cells' := (v.cells.toList.zipIdx 0).foldl (fun (cs : Array Value) (x : Value × Nat) => cs.setIfInBounds (off + x.2) x.1) cells') hy (by rw [hfold]; exact hov) h
        refine ⟨out', ?_, hr⟩
        rw [← ho]
        simp only [Instr.fill, hpl]
        rw [← Array.foldl_toList, Array.toList_zipIdx]
        rw [if_neg]
        intro hc'
        simp only [Bool.or_eq_true, decide_eq_true_eq, ne_eq] at hc'
        omega
end
end Go.Abs
