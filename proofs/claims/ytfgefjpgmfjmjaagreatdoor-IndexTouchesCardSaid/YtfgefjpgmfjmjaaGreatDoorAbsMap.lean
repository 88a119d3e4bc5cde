/- Maps. -/
import Derived.Test.YtfgefjpgmfjmjaaGreatDoorAbsExec
namespace Go.Abs
open Go.RowKit (Below)

theorem natBeq_eq {a b : Nat} (h : Nat.beq a b = true) : a = b := Nat.eq_of_beq_eq_true h
mutual
theorem AV.beq_eq : ∀ {a b : AV}, AV.beq a b = true → a = b
  | .bool a, .bool b, h => by simp only [AV.beq, boolEq_iff, beq_iff_eq] at h; rw [h]
  | .int j a, .int k b, h => by
    simp only [AV.beq, Bool.and_eq_true, intEq_iff, beq_iff_eq] at h
    rw [(kindEq_iff _ _).1 h.1, h.2]
  | .str a, .str b, h => by simp only [AV.beq] at h; rw [(natsEq_iff _ _).1 h]
  | .ptr a i, .ptr b j, h => by simp only [AV.beq, Bool.and_eq_true] at h; rw [natBeq_eq h.1, natBeq_eq h.2]
  | .nilp, .nilp, _ => rfl
  | .slc a i m c x p, .slc b j n d y q, h => by
    simp only [AV.beq, Bool.and_eq_true, boolEq_iff, beq_iff_eq] at h
    rw [natBeq_eq h.1.1.1.1.1, natBeq_eq h.1.1.1.1.2, natBeq_eq h.1.1.1.2, natBeq_eq h.1.1.2, h.1.2, natBeq_eq h.2]
  | .nils, .nils, _ => rfl
  | .map a, .map b, h => by simp only [AV.beq] at h; rw [natBeq_eq h]
  | .nilm, .nilm, _ => rfl
  | .fn f a b, .fn g c d, h => by
    simp only [AV.beq, Bool.and_eq_true, decide_eq_true_eq] at h
    rw [h.1.1, AV.beqL_eq h.1.2, AV.beqL_eq h.2]
  | .nilf, .nilf, _ => rfl
  | .ifc t v, .ifc u w, h => by
    simp only [AV.beq, Bool.and_eq_true] at h
    rw [natBeq_eq h.1, AV.beq_eq h.2]
  | .nili, .nili, _ => rfl
  | .agg a, .agg b, h => by simp only [AV.beq] at h; rw [AV.beqL_eq h]
  | .tup a, .tup b, h => by simp only [AV.beq] at h; rw [AV.beqL_eq h]
theorem AV.beqL_eq : ∀ {a b : List AV}, AV.beqL a b = true → a = b
  | [], [], _ => rfl
  | a :: x, b :: y, h => by
    simp only [AV.beqL] at h
    cases hb : AV.beq a b with
    | false => rw [hb] at h; cases h
    | true => rw [hb] at h; rw [AV.beq_eq hb, AV.beqL_eq h]
  | [], _ :: _, h => by simp [AV.beqL] at h
  | _ :: _, [], h => by simp [AV.beqL] at h
end

section
variable {T : Tabs} {P : Program} {B : Nat} {Q : List Nat} {w₀ w : World} {φ : Inj} {A A' : AHeap}

theorem sameNow_run {t : TypeId} {kind : TypeDesc} {u v : Value} {c : Bool} (ht : P.underlying t = some kind) (h : Instr.sameNow kind u v = some c) : (Op.equal t u v).run P w = .ok c w := by
  unfold Instr.sameNow at h
  split at h
  · split at h
    · rename_i hk; subst hk; cases h
      exact run_equalIn_int w 9999 t _ _ _ _ ht
    · cases h
  · cases h
    rw [beq_toListBytes]
    exact run_equalIn_string w 9999 t _ _ ht
  · cases h
    exact run_equalIn_bool' w 9999 t _ _ ht
  · cases h

def FoundRel (φ : Inj) : Option (Nat × AV × AV × Nat) → Option (Nat × Value) → Prop
  | none, none => True
  | some (i, _, v, _), some (j, u) => j = i ∧ VRel φ v u
  | _, _ => False

theorem findAsking_run (H : T.Ok P) (R : Rel B w₀ Q φ A w) {kt : TypeId} {k : AV} {k' : Value} (hk : VRel φ k k') : ∀ {es : List (AV × AV × Nat)} {ms : List MapEntry} {i : Nat} {r : Option (Nat × AV × AV × Nat)},
    EsRel φ es ms → findKey T A kt k es i = some r →
    ∃ r', (Instr.findAsking kt k' ms i).run P w = .ok r' w ∧ FoundRel φ r r' ∧ ∀ kind q, P.underlying kt = some kind → Instr.findNow kind k' ms i = some q → q = r' := by
  intro es ms i r he
  induction he generalizing i with
  | nil =>
    intro h
    simp only [findKey] at h; cases h
    exact ⟨none, by simp [Instr.findAsking], trivial, fun kind q _ hq => by simp only [Instr.findNow] at hq; cases hq; rfl⟩
  | @cons e m es ms h t ih =>
    obtain ⟨x, v, born⟩ := e
    obtain ⟨h1, h2, h3⟩ := h
    intro hf
    simp only [findKey] at hf
    split at hf
    · rename_i he
      cases hf
      have hr := equal_run H R he hk h1
      refine ⟨some (i, m.val), by simp [Instr.findAsking, hr], ⟨rfl, h2⟩, ?_⟩
      intro kind q hu hq
      simp only [Instr.findNow] at hq
      split at hq
      · cases hq; rfl
      · rename_i hs
        have := sameNow_run (w := w) hu hs
        rw [hr] at this; cases this
      · cases hq
    · rename_i he
      have hr := equal_run H R he hk h1
      obtain ⟨r', hr', hfr, hnow⟩ := ih hf
      refine ⟨r', by simp [Instr.findAsking, hr, hr'], hfr, ?_⟩
      intro kind q hu hq
      simp only [Instr.findNow] at hq
      split at hq
      · rename_i hs
        have := sameNow_run (w := w) hu hs
        rw [hr] at this; cases this
      · exact hnow kind q hu hq
      · cases hq
    · cases hf

theorem findKey_run (H : T.Ok P) (R : Rel B w₀ Q φ A w) {kt : TypeId} {kd : TypeDesc} (hu : P.underlying kt = some kd) {k : AV} {k' : Value} (hk : VRel φ k k') {es : List (AV × AV × Nat)} {ms : List MapEntry}
    {r : Option (Nat × AV × AV × Nat)} (he : EsRel φ es ms) (h : findKey T A kt k es 0 = some r) : ∃ r', (Instr.findKey kt k' ms).run P w = .ok r' w ∧ FoundRel φ r r' := by
  obtain ⟨r', hr, hf, hn⟩ := findAsking_run H R hk he h
  refine ⟨r', ?_, hf⟩
  have hund : (underlying kt).run P w = .ok kd w := by simp [underlying, hu]
  simp only [Instr.findKey, Sem.run_bind, hund, Result.andThen_ok]
  split
  · rename_i q hq
    rw [hn kd q hu hq]; rfl
  · exact hr

theorem keyOk_und {d : Nat} {t : TypeId} {x : AV} (H : T.Ok P) (h : keyOk T d t x = true) : ∃ kd, P.underlying t = some kd := by
  cases d with
  | zero => simp [keyOk] at h
  | succ d =>
    unfold keyOk at h
    split at h
    all_goals first
      | (split at h
         · rename_i hu; exact ⟨_, H.und hu⟩
         · cases h)
      | cases h

theorem EsRel.length {es : List (AV × AV × Nat)} {ms : List MapEntry} (h : EsRel φ es ms) : ms.length = es.length := by
  induction h with
  | nil => rfl
  | cons _ _ ih => simp [ih]

theorem found_at {kt : TypeId} {k : AV} : ∀ {es : List (AV × AV × Nat)} {i j : Nat} {x v : AV} {born : Nat}, findKey T A kt k es i = some (some (j, x, v, born)) →
    i ≤ j ∧ es[j - i]? = some (x, v, born)
  | [], i, j, x, v, born, h => by simp [findKey] at h
  | (y, u, b) :: es, i, j, x, v, born, h => by
    simp only [findKey] at h
    split at h
    · cases h; exact ⟨Nat.le_refl _, by simp⟩
    · obtain ⟨h1, h2⟩ := found_at h
      refine ⟨by omega, ?_⟩
      rw [show j - i = j - (i + 1) + 1 by omega]; simpa using h2
    · cases h

theorem EsRel.get {es : List (AV × AV × Nat)} {ms : List MapEntry} (h : EsRel φ es ms) {i : Nat} {e : AV × AV × Nat} (he : es[i]? = some e) : ∃ m, ms[i]? = some m ∧ ERel φ e m := by
  induction h generalizing i with
  | nil => simp at he
  | cons h t ih =>
    cases i with
    | zero => simp at he; subst he; exact ⟨_, by simp, h⟩
    | succ i => simpa using ih (by simpa using he)

theorem EsRel.setEntry {es : List (AV × AV × Nat)} {ms : List MapEntry} (h : EsRel φ es ms) {i : Nat} {k v : AV} {k' v' : Value} (hi : i < es.length) (hk : VRel φ k k') (hv : VRel φ v v') :
    EsRel φ (Abs.setEntry es i k v) (ms.modify i fun e => { e with key := k', val := v' }) := by
  induction h generalizing i with
  | nil => simp at hi
  | @cons e m es ms h t ih =>
    obtain ⟨x, u, b⟩ := e
    cases i with
    | zero =>
      simp only [Abs.setEntry, List.modify_zero_cons]
      exact .cons ⟨hk, hv, h.2.2⟩ t
    | succ i =>
      simp only [Abs.setEntry, List.modify_succ_cons]
      exact .cons h (ih (by simpa using hi))

theorem EsRel.snoc {es : List (AV × AV × Nat)} {ms : List MapEntry} (h : EsRel φ es ms) {e : AV × AV × Nat} {m : MapEntry} (he : ERel φ e m) : EsRel φ (es ++ [e]) (ms ++ [m]) := by
  induction h with
  | nil => exact .cons he .nil
  | cons h t ih => exact .cons h ih

theorem lookup_run (H : T.Ok P) (R : Rel B w₀ Q φ A w) {t : TypeId} {x k : AV} {x' k' : Value} {ok : Bool} {v : AV} (h : lookup T A t x k ok = some v) (hx : VRel φ x x') (hk : VRel φ k k') :
    Computes P φ w v (Instr.lookup t x' k' ok) := by
  unfold lookup at h
  split at h
  · rename_i kt et hu
    cases hko : keyOk T 50 kt k with
    | false => rw [hko] at h; cases h
    | true =>
      rw [hko] at h
      simp only [cond_true] at h
      obtain ⟨kd, hkd⟩ := keyOk_und H hko
      have hcheck := fun (e : Bool) => keyOk_run (w := w) (empty := e) H 50 10000 kt k k' (by omega) hko hk
      split at h
      · rename_i es hes
        have hmap : ∃ ms : Array MapEntry, EsRel φ es ms.toList ∧ ((x' = .map none ∧ ms = #[]) ∨ ∃ N clock, x' = .map (some N) ∧ w.heap[N]? = some (.map ms clock)) := by
          split at hes
          · cases hes
            simp only [VRel] at hx
            exact ⟨#[], .nil, .inl ⟨hx, rfl⟩⟩
          · rename_i r
            split at hes
            · rename_i es' clock hg
              cases hes
              simp only [VRel] at hx
              obtain ⟨N, d, hf, rfl⟩ := hx
              obtain ⟨y, hy, ms, rfl, hms⟩ := R.obj _ _ _ _ hg hf
              exact ⟨ms, hms, .inr ⟨N, clock, rfl, hy⟩⟩
            · cases hes
          · cases hes
        obtain ⟨ms, hms, hcase⟩ := hmap
        split at h
        · rename_i i y u born hfk
          cases h
          obtain ⟨r', hr', hfr⟩ := findKey_run H R hkd hk hms hfk
          cases r' with
          | none => exact hfr.elim
          | some q =>
            obtain ⟨j, u'⟩ := q
            obtain ⟨rfl, huv⟩ := hfr
            refine ⟨if ok then .tuple #[u', .bool true] else u', ?_, ?_⟩
            · rcases hcase with ⟨rfl, rfl⟩ | ⟨N, clock, rfl, hy⟩
              · simp [Instr.lookup, H.run_und hu, hcheck, hr']
              · simp [Instr.lookup, H.run_und hu, getObj, Sem.run, hy, hcheck, hr']
            · cases ok with
              | true => simp only [cond_true, if_true, VRel, LRel]; exact ⟨_, rfl, _, _, rfl, huv, _, _, rfl, rfl, rfl⟩
              | false => simpa using huv
        · rename_i hfk
          split at h
          · rename_i z hz
            cases h
            obtain ⟨zv, hzv, hzr⟩ := H.run_zero (w := w) hz
            obtain ⟨r', hr', hfr⟩ := findKey_run H R hkd hk hms hfk
            cases r' with
            | some q => obtain ⟨j, u'⟩ := q; exact hfr.elim
            | none =>
              refine ⟨if ok then .tuple #[zv, .bool false] else zv, ?_, ?_⟩
              · rcases hcase with ⟨rfl, rfl⟩ | ⟨N, clock, rfl, hy⟩
                · simp [Instr.lookup, H.run_und hu, hcheck, hr', hzv]
                · simp [Instr.lookup, H.run_und hu, getObj, Sem.run, hy, hcheck, hr', hzv]
              · cases ok with
                | true => simp only [cond_true, if_true, VRel, LRel]; exact ⟨_, rfl, _, _, rfl, hzr φ, _, _, rfl, rfl, rfl⟩
                | false => simpa using hzr φ
          · cases h
        · cases h
      · cases h
  · cases h

theorem keyStays {old new : Value} : ∃ w', (Instr.keyThatStays old new).run P w = .ok new w' ∧ (w' = w ∨ w' = w.drew) ∨ (Instr.keyThatStays old new).run P w = .ok old w' ∧ w' = w.drew := by
  unfold Instr.keyThatStays
  cases Instr.sameBits 10000 old new with
  | true => exact ⟨w, .inl ⟨by simp, .inl rfl⟩⟩
  | false =>
    have hc : (choose (.extern "map.whichKeyStays" 2) : Sem Nat).run P w = .ok (w.tape w.drawn (.extern "map.whichKeyStays" 2) % 2) w.drew := rfl
    simp only [Bool.false_eq_true, if_false, Sem.run_bind, hc, Result.andThen_ok, Sem.run_pure]
    refine ⟨w.drew, ?_⟩
    split
    · exact .inl ⟨rfl, .inr rfl⟩
    · exact .inr ⟨rfl, rfl⟩

theorem setObj_run {N : Nat} {o o' : Obj} (h : w.heap[N]? = some o) (hn : ∀ c e f, o ≠ .cells c e f) : (setObj N o').run P w = .ok () { w with heap := w.heap.setIfInBounds N o' } := by
  simp only [setObj, Sem.run, h]
theorem getObj_run {N : Nat} {o : Obj} (h : w.heap[N]? = some o) (hn : ∀ c e f, o ≠ .cells c e f) : (getObj N).run P w = .ok o w := by
  simp only [getObj, Sem.run, h]

theorem notRow_map {es : List (AV × AV × Nat)} {clock : Nat} : ∀ c lo hi cs e wr, AObj.map es clock ≠ .row c lo hi cs e wr := by intro _ _ _ _ _ _ h; cases h
theorem notCells_map {ms : Array MapEntry} {clock : Nat} : ∀ c e f, Obj.map ms clock ≠ .cells c e f := by intro _ _ _ h; cases h

theorem mapUpdate_run (H : T.Ok P) (R : Rel B w₀ Q φ A w) {t : TypeId} {m k v : AV} {m' k' v' : Value} (h : mapUpdate T A t m k v = some A') (hm : VRel φ m m') (hk : VRel φ k k') (hv : VRel φ v v') :
    GivesU P B w₀ Q φ w A' (Instr.mapUpdate t m' k' v') := by
  unfold mapUpdate at h
  split at h
  · rename_i kt et r hu
    split at h
    · rename_i es clock hg
      cases hko : keyOk T 50 kt k with
      | false => rw [hko] at h; cases h
      | true =>
        rw [hko] at h
        simp only [cond_true] at h
        obtain ⟨kd, hkd⟩ := keyOk_und H hko
        have hcheck := keyOk_run (w := w) (empty := false) H 50 10000 kt k k' (by omega) hko hk
        simp only [VRel] at hm
        obtain ⟨N, d, hf, rfl⟩ := hm
        obtain ⟨y, hy, ms, rfl, hms⟩ := R.obj _ _ _ _ hg hf
        have hget := getObj_run (P := P) hy notCells_map
        split at h
        · rename_i i x u born hfk
          cases hbq : AV.beq k x with
          | false => rw [hbq] at h; cases h
          | true =>
            rw [hbq] at h
            simp only [cond_true] at h
            cases h
            obtain rfl := AV.beq_eq hbq
            obtain ⟨r', hr', hfr⟩ := findKey_run H R hkd hk hms hfk
            cases r' with
            | none => exact hfr.elim
            | some q =>
              obtain ⟨j, u'⟩ := q
              obtain ⟨rfl, huv⟩ := hfr
              obtain ⟨_, hat⟩ := found_at hfk
              rw [Nat.sub_zero] at hat
              obtain ⟨me, hme, hek, hev, hborn⟩ := hms.get hat
              have hlt : j < es.length := by
                rcases Nat.lt_or_ge j es.length with h | h
                · exact h
                · rw [List.getElem?_eq_none h] at hat; cases hat
              have hold : (((ms[j]?).map (·.key)).getD k') = me.key := by
                have : ms[j]? = some me := by simpa using hme
                rw [this]; rfl
              have fin : ∀ (key : Value) (w1 : World), VRel φ k key → (w1 = w ∨ w1 = w.drew) → (Instr.keyThatStays me.key k').run P w = .ok key w1 →
                  GivesU P B w₀ Q φ w (A.setObj r (.map (setEntry es j k v) clock)) (Instr.mapUpdate t (.map (some N)) k' v') := by
                intro key w1 hkey hw1 hrun
                have R1 : Rel B w₀ Q φ A w1 := by rcases hw1 with rfl | rfl; exact R; exact R.drew
                have hy1 : w1.heap[N]? = some (.map ms clock) := by rcases hw1 with rfl | rfl <;> exact hy
                have hes' : EsRel φ (setEntry es j k v) (ms.modify j fun e => { e with key, val := v' }).toList := by
                  rw [Array.toList_modify]; exact hms.setEntry hlt hkey hv
                refine ⟨φ, _, ?_, φ.le_refl, R1.setObj (r' := .map (ms.modify j fun e => { e with key, val := v' }) clock) hg hf ⟨_, rfl, hes'⟩ notRow_map notRow_map⟩
                simp only [Instr.mapUpdate, Sem.run_bind, H.run_und hu, Result.andThen_ok, hget, hcheck, hr', hold, hrun]
                exact setObj_run hy1 notCells_map
              obtain ⟨w1, h1 | h1⟩ := keyStays (P := P) (w := w) (old := me.key) (new := k')
              · exact fin k' w1 hk h1.2 h1.1
              · exact fin me.key w1 hek (.inr h1.2) h1.1
        · rename_i hfk
          cases h
          obtain ⟨r', hr', hfr⟩ := findKey_run H R hkd hk hms hfk
          cases r' with
          | some q => obtain ⟨j, u'⟩ := q; exact hfr.elim
          | none =>
            have hes' : EsRel φ (es ++ [(k, v, clock)]) (ms.push { key := k', val := v', born := clock }).toList := by
              rw [Array.toList_push]; exact hms.snoc ⟨hk, hv, rfl⟩
            refine ⟨φ, _, ?_, φ.le_refl, R.setObj (r' := .map (ms.push { key := k', val := v', born := clock }) (clock + 1)) hg hf ⟨_, rfl, hes'⟩ notRow_map notRow_map⟩
            simp only [Instr.mapUpdate, Sem.run_bind, H.run_und hu, Result.andThen_ok, hget, hcheck, hr']
            exact setObj_run hy notCells_map
        · cases h
    · cases h
  · cases h

theorem mapEntry_run (H : T.Ok P) (R : Rel B w₀ Q φ A w) {t : TypeId} {m k v : AV} {m' k' : Value} (h : mapEntry T A t m k = some (v, A')) (hm : VRel φ m m') (hk : VRel φ k k') :
    Gives P B w₀ Q φ w A' v (Instr.mapEntry t m' k') := by
  unfold mapEntry at h
  split at h
  · rename_i kt et r hu
    split at h
    · rename_i es clock hg
      cases hko : keyOk T 50 kt k with
      | false => rw [hko] at h; cases h
      | true =>
        rw [hko] at h
        simp only [cond_true] at h
        obtain ⟨kd, hkd⟩ := keyOk_und H hko
        have hcheck := keyOk_run (w := w) (empty := false) H 50 10000 kt k k' (by omega) hko hk
        simp only [VRel] at hm
        obtain ⟨N, d, hf, rfl⟩ := hm
        obtain ⟨y, hy, ms, rfl, hms⟩ := R.obj _ _ _ _ hg hf
        have hget := getObj_run (P := P) hy notCells_map
        split at h
        · rename_i i x u born hfk
          cases hbq : AV.beq k x with
          | false => rw [hbq] at h; cases h
          | true =>
            rw [hbq] at h
            simp only [cond_true] at h
            cases h
            obtain rfl := AV.beq_eq hbq
            obtain ⟨r', hr', hfr⟩ := findKey_run H R hkd hk hms hfk
            cases r' with
            | none => exact hfr.elim
            | some q =>
              obtain ⟨j, u'⟩ := q
              obtain ⟨rfl, huv⟩ := hfr
              obtain ⟨_, hat⟩ := found_at hfk
              rw [Nat.sub_zero] at hat
              obtain ⟨me, hme, hek, hev, hborn⟩ := hms.get hat
              have hlt : j < es.length := by
                rcases Nat.lt_or_ge j es.length with h | h
                · exact h
                · rw [List.getElem?_eq_none h] at hat; cases hat
              have hme' : ms[j]? = some me := by simpa using hme
              have hold : (((ms[j]?).map (·.key)).getD k') = me.key := by rw [hme']; rfl
              have hbn : ((Option.map (fun x : MapEntry => (x.born : Int)) ms[j]?).getD 0) = (born : Int) := by rw [hme']; simp [hborn]
              have fin : ∀ (key : Value) (w1 : World), VRel φ k key → (w1 = w ∨ w1 = w.drew) → (Instr.keyThatStays me.key k').run P w = .ok key w1 →
                  Gives P B w₀ Q φ w (A.setObj r (.map (setEntry es j k u) clock)) (.tup [u, .int .i64 born]) (Instr.mapEntry t (.map (some N)) k') := by
                intro key w1 hkey hw1 hrun
                have R1 : Rel B w₀ Q φ A w1 := by rcases hw1 with rfl | rfl; exact R; exact R.drew
                have hy1 : w1.heap[N]? = some (.map ms clock) := by rcases hw1 with rfl | rfl <;> exact hy
                have hes' : EsRel φ (setEntry es j k u) (ms.modify j fun e => { e with key }).toList := by
                  rw [Array.toList_modify]
                  have h1 := hms.setEntry hlt hkey hev
                  have : (ms.toList.modify j fun e => { e with key, val := me.val }) = ms.toList.modify j fun e => { e with key } := by
                    apply List.ext_getElem?
                    intro q
                    rw [List.getElem?_modify, List.getElem?_modify]
                    by_cases hq : j = q
                    · subst hq; rw [hme]; simp
                    · simp [hq]
                  rw [← this]; exact h1
                refine ⟨φ, .tuple #[u', goInt born], _, ?_, φ.le_refl, R1.setObj (r' := .map (ms.modify j fun e => { e with key }) clock) hg hf ⟨_, rfl, hes'⟩ notRow_map notRow_map, ?_⟩
                · simp only [Instr.mapEntry, Sem.run_bind, H.run_und hu, Result.andThen_ok, hget, hcheck, hr', hold, hrun, setObj_run hy1 notCells_map, hbn, Sem.run_pure]
                · simp only [VRel, LRel]; exact ⟨_, rfl, _, _, rfl, huv, _, _, rfl, rfl, rfl⟩
              obtain ⟨w1, h1 | h1⟩ := keyStays (P := P) (w := w) (old := me.key) (new := k')
              · exact fin k' w1 hk h1.2 h1.1
              · exact fin me.key w1 hek (.inr h1.2) h1.1
        · rename_i hfk
          split at h
          · rename_i z hz
            cases h
            obtain ⟨zv, hzv, hzr⟩ := H.run_zero (w := w) hz
            obtain ⟨r', hr', hfr⟩ := findKey_run H R hkd hk hms hfk
            cases r' with
            | some q => obtain ⟨j, u'⟩ := q; exact hfr.elim
            | none =>
              have hes' : EsRel φ (es ++ [(k, z, clock)]) (ms.push { key := k', val := zv, born := clock }).toList := by
                rw [Array.toList_push]; exact hms.snoc ⟨hk, hzr φ, rfl⟩
              refine ⟨φ, .tuple #[zv, goInt clock], _, ?_, φ.le_refl, R.setObj (r' := .map (ms.push { key := k', val := zv, born := clock }) (clock + 1)) hg hf ⟨_, rfl, hes'⟩ notRow_map notRow_map, ?_⟩
              · simp only [Instr.mapEntry, Sem.run_bind, H.run_und hu, Result.andThen_ok, hget, hcheck, hr', hzv, setObj_run hy notCells_map, Sem.run_pure]
              · simp only [VRel, LRel]; exact ⟨_, rfl, _, _, rfl, hzr φ, _, _, rfl, rfl, rfl⟩
          · cases h
        · cases h
    · cases h
  · cases h

theorem putBorn_run {s : Nat} {v : AV} {v' : Value} (hv : VRel φ v v') : ∀ {es es' : List (AV × AV × Nat)} {ms : List MapEntry}, EsRel φ es ms → putBorn s v es = some es' →
    ∃ i, ms.findIdx? (fun e => (e.born : Int) == (s : Int)) = some i ∧ EsRel φ es' (ms.modify i fun e => { e with val := v' }) := by
  intro es es' ms h
  induction h generalizing es' with
  | nil => intro h; simp [putBorn] at h
  | @cons e m es ms h t ih =>
    obtain ⟨k, x, b⟩ := e
    obtain ⟨h1, h2, h3⟩ := h
    simp only at h1 h2 h3
    intro hp
    simp only [putBorn] at hp
    cases hb : Nat.beq b s with
    | true =>
      rw [hb] at hp; cases hp
      have := natBeq_eq hb
      subst this
      refine ⟨0, by simp [List.findIdx?_cons, h3], ?_⟩
      simp only [List.modify_zero_cons]
      exact .cons ⟨h1, hv, h3⟩ t
    | false =>
      rw [hb] at hp
      simp only [cond_false] at hp
      split at hp
      · rename_i l hl
        cases hp
        obtain ⟨i, hi, hr⟩ := ih hl
        have hne : ¬ b = s := by rintro rfl; rw [Nat.beq_refl] at hb; cases hb
        have hne' : ((m.born : Int) == (s : Int)) = false := by rw [h3]; simp; omega
        refine ⟨i + 1, by simp [List.findIdx?_cons, hne', hi], ?_⟩
        simp only [List.modify_succ_cons]
        exact .cons ⟨h1, h2, h3⟩ hr
      · cases hp

theorem entryStore_run (R : Rel B w₀ Q φ A w) {t : TypeId} {m s v : AV} {m' s' v' : Value} (h : entryStore A m s v = some A') (hm : VRel φ m m') (hs : VRel φ s s') (hv : VRel φ v v') :
    GivesU P B w₀ Q φ w A' (Instr.entryStore t m' s' v') := by
  unfold entryStore at h
  split at h
  · rename_i r k n
    split at h
    · rename_i es clock hg
      split at h
      · rename_i es' hes
        cases h
        simp only [VRel] at hm hs
        subst hs
        obtain ⟨N, d, hf, rfl⟩ := hm
        obtain ⟨y, hy, ms, rfl, hms⟩ := R.obj _ _ _ _ hg hf
        have hget := getObj_run (P := P) hy notCells_map
        obtain ⟨i, hi, hr⟩ := putBorn_run hv hms hes
        have hi' : ms.findIdx? (fun e => (e.born : Int) == Int.ofNat n) = some i := by
          rw [show ms = ms.toList.toArray by simp, List.findIdx?_toArray]; exact hi
        refine ⟨φ, _, ?_, φ.le_refl, R.setObj (r' := .map (ms.modify i fun e => { e with val := v' }) clock) hg hf ⟨_, rfl, by rw [Array.toList_modify]; exact hr⟩ notRow_map notRow_map⟩
        simp only [Instr.entryStore, Sem.run_bind, hget, Result.andThen_ok, asInt, asIntOf, Sem.run_pure, hi']
        exact setObj_run hy notCells_map
      · cases h
    · cases h
  · cases h

/-! Texts that are gone through -/

theorem decode_ascii {s : ByteArray} {pos b : Nat} (h : (bytesOf s)[pos]? = some b) (hb : b < 128) : Utf8.decode s pos = (b, 1) := by
  obtain ⟨x, hx, rfl⟩ := bytesOf_get (t := s) (n := pos) (by rw [nth_eq]; exact h)
  have hlt : pos < s.size := by
    rcases Nat.lt_or_ge pos s.size with h | h
    · exact h
    · rw [getElem?_neg _ _ (by omega)] at hx; cases hx
  have hg : s.get! pos = x := by
    rw [getElem?_pos s pos hlt] at hx
    cases hx
    show s.data[pos]! = s.data[pos]
    exact getElem!_pos s.data pos hlt
  unfold Utf8.decode
  simp only [Nat.add_zero, hg]
  rw [if_pos hb]

theorem next_run (R : Rel B w₀ Q φ A w) {it v : AV} {it' : Value} {t : TypeId} (h : next A it = some (v, A')) (hi : VRel φ it it') : Gives P B w₀ Q φ w A' v (Instr.next it' true t) := by
  unfold next at h
  split at h
  · rename_i r
    split at h
    · rename_i s pos hg
      simp only [VRel] at hi
      obtain ⟨N, d, off, hf, ho, rfl⟩ := hi
      obtain ⟨y, hy, rfl, u, rfl, hu⟩ := R.obj _ _ _ _ hg hf
      have hoff : off = 0 := by omega
      subst hoff
      subst hu
      have hget := getObj_run (P := P) hy (by intro _ _ _ h; cases h)
      rw [dropN_eq] at h
      split at h
      · rename_i hnil
        cases h
        have hle : (bytesOf u).length ≤ pos := List.drop_eq_nil_iff.1 hnil
        rw [bytesOf_length] at hle
        have hn : ¬ pos < u.size := by omega
        refine ⟨φ, .tuple #[.bool false], w, ?_, φ.le_refl, R, by simp only [VRel, LRel]; exact ⟨_, rfl, _, _, rfl, rfl, rfl⟩⟩
        simp only [Instr.next, Sem.run_bind, hget, Result.andThen_ok, if_neg hn, Sem.run_pure]
      · rename_i b rest hcons
        cases hb : Nat.blt b 128 with
        | false => rw [hb] at h; cases h
        | true =>
          rw [hb] at h
          simp only [cond_true] at h
          cases h
          have hlt : b < 128 := Nat.le_of_ble_eq_true hb
          have hat : (bytesOf u)[pos]? = some b := by
            have := congrArg (fun l => l[0]?) hcons
            simpa using this
          have hp : pos < u.size := by
            rw [← bytesOf_length]
            rcases Nat.lt_or_ge pos (bytesOf u).length with h | h
            · exact h
            · rw [List.getElem?_eq_none h] at hat; cases hat
          have hdec := decode_ascii hat hlt
          refine ⟨φ, .tuple #[.bool true, goInt pos, .int .i32 b], _, ?_, φ.le_refl, R.setObj (o' := .iter (bytesOf u) (pos + 1)) (r' := .stringIter u (pos + 1)) hg hf ⟨rfl, u, rfl, rfl⟩
            (by intro _ _ _ _ _ _ h; cases h) (by intro _ _ _ _ _ _ h; cases h), ?_⟩
          · simp only [Instr.next, Sem.run_bind, hget, Result.andThen_ok, if_pos hp, hdec, setObj_run hy (by intro _ _ _ h; cases h), Sem.run_pure]
          · simp only [VRel, LRel]; exact ⟨_, rfl, _, _, rfl, rfl, _, _, rfl, rfl, _, _, rfl, rfl, rfl⟩
    · cases h
  · cases h

theorem exRange_run (H : T.Ok P) (R : Rel B w₀ Q φ A w) {t : TypeId} {x : Option AV} {x' : Value} {r : ARes} (h : exRange T A t x = some (r, A')) (hx : ∀ v, x = some v → VRel φ v x') :
    ∃ v, r = .val v ∧ Gives P B w₀ Q φ w A' v (Instr.range t x') := by
  unfold exRange at h
  split at h
  · rename_i hu
    split at h
    · rename_i s
      have hs := hx _ rfl
      simp only [VRel] at hs
      obtain ⟨u, rfl, hu'⟩ := hs
      cases he : A.new (.iter s 0) with
      | mk b A₁ =>
        rw [he] at h; cases h
        obtain ⟨h1, h2, h3⟩ := new_rel R (o := .iter s 0) (r := .stringIter u 0) ⟨rfl, u, rfl, hu'⟩ (by intro _ _ _ _ _ _ h; cases h)
        rw [he] at h2 h3
        simp only at h2 h3
        subst h2
        exact ⟨_, rfl, _, .pointer (some ⟨w.heap.size, 0, none⟩), _, by simp [Instr.range, H.run_und hu], h1, h3, put_ptr φ _ _ _⟩
    · cases h
  · cases h
end
end Go.Abs
