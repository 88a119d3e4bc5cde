/- The operations that only compute: what the machine tells is what the model tells. -/
import Derived.Test.YtfgefjpgmfjmjaaGreatDoorAbsHeap
import Derived.Laws.StructEq
import Derived.Lib.Strings
import Derived.Laws.Externs
namespace Go.Abs
open Go.RowKit (Below)

structure Tabs.Ok (T : Tabs) (P : Program) : Prop where
  ty : ∀ t i, T.ty.get t = some i → P.info? t = some i
  fns : ∀ f fn, T.fns.get f = some fn → P.funcs[f]? = some fn ∧ (fn.name == "runtime.NumGoroutine") = false
  ext0 : ∀ f, T.ext.get f = some 0 → ∃ fn, P.funcs[f]? = some fn ∧ (fn.name == "runtime.NumGoroutine") = false ∧ fn.body.isNone = true ∧ Extern.findNext fn = none ∧ Extern.find fn = some Extern.BytealgIndexByte.indexByte
  ext1 : ∀ f, T.ext.get f = some 1 → ∃ fn, P.funcs[f]? = some fn ∧ (fn.name == "runtime.NumGoroutine") = false ∧ fn.body.isNone = true ∧ Extern.findNext fn = none ∧ Extern.find fn = some Extern.AbiNoEscape.same
  plain : ∀ t, T.plain.get t = some () → P.eqGuardType P.depth t = false ∧ P.stoodInHeld t = false
  mixed : P.follows .mixedOrders = true

section
variable {T : Tabs} {P : Program} {w : World} {φ : Inj}

theorem Tabs.Ok.und (H : T.Ok P) {t : TypeId} {d : TypeDesc} (h : T.und t = some d) : P.underlying t = some d := by
  unfold Tabs.und at h
  unfold Program.underlying
  split at h
  · rename_i i hi
    rw [H.ty _ _ hi]
    split at h
    · rename_i n u hd
      split at h
      · rename_i j hj
        cases h
        obtain ⟨desc, _⟩ := i
        simp only at hd
        subst hd
        simp [H.ty _ _ hj]
      · cases h
    · rename_i hd
      cases h
      obtain ⟨desc, _⟩ := i
      simp only
      split
      · rename_i n u e
        cases e
        exact absurd rfl (hd _ _)
      · rename_i e; cases e; rfl
      · rename_i e; cases e
  · cases h

theorem Tabs.Ok.run_und (H : T.Ok P) {t : TypeId} {d : TypeDesc} (h : T.und t = some d) : (underlying t).run P w = .ok d w := by
  simp [underlying, H.und h]
theorem Tabs.Ok.run_info (H : T.Ok P) {t : TypeId} {i : TypeInfo} (h : T.ty.get t = some i) : (typeInfo t).run P w = .ok i w := by
  simp [typeInfo, H.ty _ _ h]
theorem Tabs.Ok.run_size (H : T.Ok P) {t : TypeId} {n : Nat} (h : T.size t = some n) : (sizeOf t).run P w = .ok n w := by
  unfold Tabs.size at h
  split at h
  · rename_i i hi
    cases h
    simp [sizeOf, H.run_info hi]
  · cases h
theorem Tabs.Ok.run_agg (H : T.Ok P) {t : TypeId} {b : Bool} (h : T.agg t = some b) : (isAgg t).run P w = .ok b w := by
  unfold Tabs.agg at h
  split at h
  · rename_i fs hd; cases h; simp [isAgg, H.run_und hd]
  · rename_i n e hd; cases h; simp [isAgg, H.run_und hd]
  · rename_i d h1 h2 hd
    cases h
    simp only [isAgg, Sem.run_bind, H.run_und hd, Result.andThen_ok]
    cases d <;> first | rfl | exact absurd rfl (h1 _) | exact absurd rfl (h2 _ _)
  · cases h
theorem Tabs.Ok.run_zero (H : T.Ok P) {t : TypeId} {z : AV} (h : T.zero t = some z) : ∃ v, (zeroValue t).run P w = .ok v w ∧ ∀ φ, VRel φ z v := by
  unfold Tabs.zero at h
  split at h
  · rename_i i hi
    split at h
    · rename_i v hv
      exact ⟨v, by simp [zeroValue, H.run_info hi, hv], fun φ => toAV_rel v z h⟩
    · cases h
  · cases h

/-! Parts -/

theorem LRel.drop : ∀ (n : Nat) {l : List AV} {l' : List Value}, LRel φ l l' → LRel φ (dropN n l) (l'.drop n)
  | 0, l, l', h => by cases l <;> simpa [dropN] using h
  | n + 1, [], l', h => by simp only [LRel] at h; subst h; simp [dropN, LRel]
  | n + 1, a :: l, l', h => by
    simp only [LRel] at h
    obtain ⟨x, y, rfl, _, hy⟩ := h
    simpa [dropN] using LRel.drop n hy
theorem LRel.take : ∀ (n : Nat) {l : List AV} {l' : List Value}, LRel φ l l' → LRel φ (takeN n l) (l'.take n)
  | 0, l, l', h => by simp [takeN, LRel]
  | n + 1, [], l', h => by simp only [LRel] at h; subst h; simp [takeN, LRel]
  | n + 1, a :: l, l', h => by
    simp only [LRel] at h
    obtain ⟨x, y, rfl, hx, hy⟩ := h
    simp only [takeN, List.take_succ_cons, LRel]
    exact ⟨x, _, rfl, hx, LRel.take n hy⟩
theorem nth_nil {α : Type} (n : Nat) : nth ([] : List α) n = none := rfl
theorem nth_zero {α : Type} (a : α) (l : List α) : nth (a :: l) 0 = some a := rfl
theorem nth_succ {α : Type} (a : α) (l : List α) (n : Nat) : nth (a :: l) (n + 1) = nth l n := rfl
theorem nth_eq {α : Type} : ∀ (l : List α) (n : Nat), nth l n = l[n]?
  | [], n => by rw [nth_nil]; simp
  | a :: l, 0 => by rw [nth_zero]; simp
  | a :: l, n + 1 => by rw [nth_succ, nth_eq l n]; simp
theorem LRel.nth {l : List AV} {l' : List Value} {n : Nat} {v : AV} (h : LRel φ l l') (hn : Abs.nth l n = some v) : ∃ v', l'[n]? = some v' ∧ VRel φ v v' := by
  rw [nth_eq] at hn
  have hi : n < l.length := by
    rcases Nat.lt_or_ge n l.length with h | h
    · exact h
    · rw [List.getElem?_eq_none h] at hn; cases hn
  obtain ⟨x, hx, hr⟩ := LRel.get n h hi
  rw [List.getElem?_eq_getElem hi] at hn
  cases hn
  exact ⟨x, hx, hr⟩

theorem part_run (H : T.Ok P) {t : TypeId} {cs : List AV} {cs' : Array Value} {off : Nat} {v : AV} (hc : LRel φ cs cs'.toList) (h : part T t cs off = some v) :
    ∃ v', (Go.part t cs' off).run P w = .ok v' w ∧ VRel φ v v' := by
  unfold part at h
  split at h
  · rename_i n ha hn
    cases hb : Nat.ble (off + n) cs.length with
    | false => rw [hb] at h; cases h
    | true =>
      rw [hb] at h
      cases h
      refine ⟨.agg (cs'.extract off (off + n)), ?_, ?_⟩
      · simp [Go.part, H.run_agg ha, H.run_size hn]
      · simp only [VRel]
        refine ⟨_, rfl, ?_⟩
        have := (hc.drop off).take n
        rw [show (cs'.extract off (off + n)).toList = (cs'.toList.drop off).take n by simp]
        exact this
  · rename_i ha
    obtain ⟨v', hv, hr⟩ := hc.nth h
    refine ⟨v', ?_, hr⟩
    have hv' : cs'[off]? = some v' := by simpa using hv
    simp [Go.part, H.run_agg ha, hv']
  · cases h

/-! Cells of a value -/

theorem cells_rel {a : AV} {v : Value} (h : VRel φ a v) (ha : a ≠ .any) : LRel φ a.cells v.cells.toList := by
  cases a <;> simp only [VRel] at h
  case agg cs => obtain ⟨cs', rfl, h⟩ := h; exact h
  case any => exact absurd rfl ha
  case tup cs =>
    obtain ⟨cs', rfl, h⟩ := h
    simp only [AV.cells, Value.cells, LRel]
    exact ⟨_, [], rfl, by simp only [VRel]; exact ⟨_, rfl, h⟩, rfl⟩
  case ifc t x =>
    obtain ⟨y, rfl, h⟩ := h
    simp only [AV.cells, Value.cells, LRel]
    exact ⟨_, [], rfl, by simp only [VRel]; exact ⟨_, rfl, h⟩, rfl⟩
  case slc =>
    have h0 := h
    obtain ⟨a, c, rfl, _⟩ := h
    simp only [AV.cells, Value.cells, LRel]
    exact ⟨_, [], rfl, by simp only [VRel]; exact h0, rfl⟩
  all_goals
    first
    | (subst h; simp only [AV.cells, Value.cells, LRel]; exact ⟨_, [], rfl, by simp only [VRel], rfl⟩)
    | (have h0 := h; obtain ⟨t, rfl, _⟩ := h; simp only [AV.cells, Value.cells, LRel]; exact ⟨_, [], rfl, by simp only [VRel]; exact h0, rfl⟩)
    | (have h0 := h; obtain ⟨t, u, v, _, _, rfl⟩ := h; simp only [AV.cells, Value.cells, LRel]; exact ⟨_, [], rfl, by simp only [VRel]; exact h0, rfl⟩)
    | (have h0 := h; obtain ⟨t, u, _, rfl⟩ := h; simp only [AV.cells, Value.cells, LRel]; exact ⟨_, [], rfl, by simp only [VRel]; exact h0, rfl⟩)
    | (have h0 := h; obtain ⟨t, u, v, rfl, _⟩ := h; simp only [AV.cells, Value.cells, LRel]; exact ⟨_, [], rfl, by simp only [VRel]; exact h0, rfl⟩)

/-! Texts -/

theorem bytesOf_length (t : ByteArray) : (bytesOf t).length = t.size := by
  unfold bytesOf; rw [List.length_map, Array.length_toList]; rfl
theorem bytesOf_inj {a b : ByteArray} (h : bytesOf a = bytesOf b) : a = b := by
  obtain ⟨⟨x⟩⟩ := a
  obtain ⟨⟨y⟩⟩ := b
  have h' : x.map UInt8.toNat = y.map UInt8.toNat := h
  have : x = y := List.map_inj_right (fun _ _ e => UInt8.toNat_inj.1 e) |>.1 h'
  rw [this]
theorem bytesOf_append (a b : ByteArray) : bytesOf (a ++ b) = bytesOf a ++ bytesOf b := by
  simp [bytesOf, ByteArray.data_append]
theorem takeB_eq : ∀ (n : Nat) (l : List Nat), takeB n l = l.take n
  | 0, l => by simp [takeB]
  | n + 1, [] => by simp [takeB]
  | n + 1, a :: l => by simp [takeB, takeB_eq n l]
theorem dropN_eq {α : Type} : ∀ (n : Nat) (l : List α), dropN n l = l.drop n
  | 0, l => by cases l <;> simp [dropN]
  | n + 1, [] => by simp [dropN]
  | n + 1, a :: l => by simp [dropN, dropN_eq n l]
theorem bytesOf_extract (t : ByteArray) (l h : Nat) : bytesOf (t.extract l h) = takeB (h - l) (dropN l (bytesOf t)) := by
  rw [takeB_eq, dropN_eq]
  unfold bytesOf
  rw [Lib.extract_data]
  simp [List.map_take, List.map_drop]
theorem bytesOf_get {t : ByteArray} {n c : Nat} (h : nth (bytesOf t) n = some c) : ∃ b : UInt8, t[n]? = some b ∧ b.toNat = c := by
  rw [nth_eq] at h
  unfold bytesOf at h
  rw [List.getElem?_map] at h
  cases hb : t.data.toList[n]? with
  | none => rw [hb] at h; cases h
  | some b =>
    rw [hb] at h
    simp only [Option.map_some, Option.some.injEq] at h
    refine ⟨b, ?_, h⟩
    have hn : n < t.data.toList.length := by
      rcases Nat.lt_or_ge n t.data.toList.length with h | h
      · exact h
      · rw [List.getElem?_eq_none h] at hb; cases hb
    have hsz : n < t.size := by rw [Array.length_toList] at hn; exact hn
    rw [getElem?_pos t n hsz]
    rw [List.getElem?_eq_getElem hn] at hb
    cases hb
    rfl

theorem natsEq_nil : natsEq [] [] = true := rfl
theorem natsEq_cons (a b : Nat) (x y : List Nat) : natsEq (a :: x) (b :: y) = sel (Nat.beq a b) (natsEq x y) false := rfl
theorem natsEq_iff : ∀ (x y : List Nat), natsEq x y = true ↔ x = y
  | [], [] => by simp [natsEq_nil]
  | [], b :: y => by simp [show natsEq [] (b :: y) = false from rfl]
  | a :: x, [] => by simp [show natsEq (a :: x) [] = false from rfl]
  | a :: x, b :: y => by
    rw [natsEq_cons]
    cases h : Nat.beq a b with
    | true =>
      have := Nat.eq_of_beq_eq_true h
      subst this
      simp [natsEq_iff x y]
    | false =>
      have hne : a ≠ b := by rintro rfl; simp [Nat.beq_refl] at h
      simp [hne]
theorem natsEq_bytes (a b : ByteArray) : natsEq (bytesOf a) (bytesOf b) = (a.toList == b.toList) := by
  rw [Bool.eq_iff_iff, natsEq_iff, ByteArray.toList_eq, ByteArray.toList_eq, beq_iff_eq]
  constructor
  · intro h; rw [bytesOf_inj h]
  · intro h; unfold bytesOf; rw [h]
theorem natsLess_bytes (x y : List UInt8) : natsLess (x.map UInt8.toNat) (y.map UInt8.toNat) = Op.bytesLess x y := by
  induction x generalizing y with
  | nil => cases y <;> simp [natsLess, Op.bytesLess]
  | cons a x ih =>
    cases y with
    | nil => simp [natsLess, Op.bytesLess]
    | cons b y =>
      simp only [List.map_cons, natsLess, Op.bytesLess, ih]
      have h1 : Nat.blt a.toNat b.toNat = decide (a < b) := by
        rw [Bool.eq_iff_iff]
        simp only [decide_eq_true_eq, UInt8.lt_iff_toNat_lt]
        exact ⟨fun h => Nat.le_of_ble_eq_true h, fun h => Nat.ble_eq_true_of_le h⟩
      have h2 : Nat.beq a.toNat b.toNat = (a == b) := by
        rw [Bool.eq_iff_iff]
        simp only [beq_iff_eq]
        exact ⟨fun h => UInt8.toNat_inj.1 (Nat.eq_of_beq_eq_true h), fun h => by rw [h]; exact Nat.beq_refl _⟩
      rw [h1, h2]
      cases decide (a < b) <;> cases (a == b) <;> simp
theorem natsLess_str (a b : ByteArray) : natsLess (bytesOf a) (bytesOf b) = Op.bytesLess a.toList b.toList := by
  rw [ByteArray.toList_eq, ByteArray.toList_eq]
  exact natsLess_bytes _ _

theorem kindEq_iff (j k : IntKind) : kindEq j k = true ↔ j = k := by cases j <;> cases k <;> simp [kindEq]
theorem intEq_iff (a b : Int) : intEq a b = (a == b) := by
  rw [Bool.eq_iff_iff, beq_iff_eq]
  cases a with
  | ofNat a => cases b with
    | ofNat b => exact ⟨fun h => by rw [Nat.eq_of_beq_eq_true h], fun h => by cases h; exact Nat.beq_refl _⟩
    | negSucc b => exact ⟨fun h => (by cases h), fun h => (by cases h)⟩
  | negSucc a => cases b with
    | ofNat b => exact ⟨fun h => (by cases h), fun h => (by cases h)⟩
    | negSucc b => exact ⟨fun h => by rw [Nat.eq_of_beq_eq_true h], fun h => by cases h; exact Nat.beq_refl _⟩
theorem boolEq_iff (a b : Bool) : boolEq a b = (a == b) := by cases a <;> cases b <;> rfl

end
end Go.Abs
