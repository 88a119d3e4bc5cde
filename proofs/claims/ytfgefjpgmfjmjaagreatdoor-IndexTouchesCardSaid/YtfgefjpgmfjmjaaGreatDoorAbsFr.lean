/- Frames, and what stands for them. -/
import Derived.Test.YtfgefjpgmfjmjaaGreatDoorAbsOp
import Derived.Orders
namespace Go.Abs
open Go.RowKit (Below)

noncomputable section
variable {T : Tabs} {P : Program} {B : Nat} {Q : List Nat} {w₀ w : World} {φ ψ : Inj} {A A' : AHeap}

/-- The variables of the program stand for themselves. -/
def GlobOk (T : Tabs) (φ : Inj) : Prop := ∀ g, g < T.glob → φ g = some (g, 0)
theorem GlobOk.mono (h : φ.le ψ) (r : GlobOk T φ) : GlobOk T ψ := fun g hg => (h _ _ (r g hg)).1

inductive PanRel (φ : Inj) : List APanic → List PanicEntry → Prop where
  | nil : PanRel φ [] []
  | cons {a v c c'} {r : Bool} (h : VRel φ a v) (t : PanRel φ c c') : PanRel φ (⟨a, r⟩ :: c) ({ v, recovered := r, goexit := false } :: c')
def ModeRel (φ : Inj) : AMode → FrameMode → Prop
  | .run, m => m = .run
  | .returning, m => m = .returning
  | .panicking c, m => ∃ c', m = .panicking c' ∧ PanRel φ c c'

def ItemRel (φ : Inj) : AItem → Item → Prop
  | .code c, i => i = .code c
  | .inBlock id, i => i = .inBlock id
  | .inLoop c, i => i = .inLoop c
  | .inScope c, i => i = .inScope c
  | .inRangeFunc l, i => ∃ N d, φ l = some (N, d) ∧ i = .inRangeFunc N
  | .endRangeFunc l, i => ∃ N d, φ l = some (N, d) ∧ i = .endRangeFunc N
  | .beginRound, i => i = .beginRound
  | _, _ => False
inductive KRel (φ : Inj) : List AItem → List Item → Prop where
  | nil : KRel φ [] []
  | cons {a i k k'} (h : ItemRel φ a i) (t : KRel φ k k') : KRel φ (a :: k) (i :: k')

/-- A plain region, of which some operations are done. -/
def RegRel (φ : Inj) (nt : Nat) (ops : Array Oper) (rest : List Oper) (prev : List (Option Tmp)) (vals : List AV) (tmps : Tree AV) (tmps' : Array Value) (is : List Nat) : Prop :=
  ∃ done : List Oper, ops.toList = done ++ rest ∧ prev = (done.map (·.dst)).reverse ∧ vals.length = done.length ∧ is = List.range' done.length rest.length ∧ dstsIn nt ops.toList = true ∧
    ∀ t, ∃ a, tmpIn vals tmps t (srcOf t prev) = some a ∧ VRel φ a (tmps'.getD t undef)

/-- What has been made, but not yet in the model: by operations that are still to come. -/
def pendAt (l : List Oper) (vals : Tree AV) (listed : Array Bool) (i : Nat) : Option Nat :=
  match listed.getD i true, nth l i with
  | false, some o => if makes o.op then (vals.get i).bind blockOf else none
  | _, _ => none
def pendOf (l : List Oper) (vals : Tree AV) (listed : Array Bool) : List Nat := (List.range l.length).filterMap (pendAt l vals listed)
def unlisted (n : Nat) (listed : Array Bool) : List Nat := (List.range n).filter fun i => !listed.getD i true

/-- A region that draws its order: at stage 's', the stages below 'c' are told. -/
structure Draw (φ : Inj) (q : List Nat) (nt : Nat) (ops : Array Oper) (Pl : Plan) (s c : Nat) (vals tmps : Tree AV) (tmps' : Array Value) (listed : Array Bool) : Prop where
  plan : Abs.plan ops = some Pl
  size : listed.size = ops.size
  down : ∀ i o, ops[i]? = some o → listed.getD i true = true → ∀ e ∈ o.after.toList, binding e = true → listed.getD e.on false = true
  acts : ∀ k a, nth Pl.acts k = some a → (listed.getD a true = true ↔ k < s)
  le : s ≤ Pl.acts.length
  told : ∀ i o m, ops[i]? = some o → nth Pl.masks i = some m → actsOp o.op = false → loStage m Pl.acts < c → (vals.get i).isSome = true
  untold : ∀ i o m, ops[i]? = some o → nth Pl.masks i = some m → actsOp o.op = false → c ≤ loStage m Pl.acts → vals.get i = none
  done : ∀ i o, ops[i]? = some o → listed.getD i true = true → ∃ a, vals.get i = some a ∧ ∀ d, o.dst = some d → VRel φ a (tmps'.getD d undef)
  old : ∀ t, (∀ i o, ops[i]? = some o → o.dst = some t → listed.getD i true = false) → VRel φ (getTmp tmps t) (tmps'.getD t undef)
  pend : q.Perm (pendOf ops.toList vals listed)
  dsts : dstsIn nt ops.toList = true
def DrawRel (φ : Inj) (q : List Nat) (nt : Nat) (ops : Array Oper) (s c : Nat) (vals tmps : Tree AV) (tmps' : Array Value) (is : List Nat) : Prop :=
  ∃ (Pl : Plan) (fuel t : Nat) (listed : Array Bool), Draw φ q nt ops Pl s c vals tmps tmps' listed ∧ is = Region.linearise.go .any ops fuel t listed [] ∧ (unlisted ops.size listed).length ≤ fuel

/-- Does a region that draws its order wait at its act? -/
def atAct (ops : Array Oper) (s : Nat) (is : List Nat) : Prop := ∃ Pl i r, plan ops = some Pl ∧ is = i :: r ∧ nth Pl.acts s = some i

/-- What a frame has yet to do; 'wait' says that it waits for a value. -/
def TodoRel (φ : Inj) (q : List Nat) (nt : Nat) (wait : Bool) (tmps : Tree AV) (todo : List AItem) (tmps' : Array Value) (todo' : List Item) : Prop :=
  match todo with
  | .inRegion ops rest prev vals :: k => q = [] ∧ ∃ is k', todo' = .inRegion ops is :: k' ∧ KRel φ k k' ∧ RegRel φ nt ops rest prev vals tmps tmps' is
  | .inDraw ops s vals :: k => ∃ is k', todo' = .inRegion ops is :: k' ∧ KRel φ k k' ∧ DrawRel φ q nt ops s (bif wait then s + 1 else s) vals tmps tmps' is ∧ (wait = true → atAct ops s is)
  | todo => q = [] ∧ KRel φ todo todo' ∧ TRel φ tmps tmps'

def BodyRel (φ : Inj) (q : List Nat) (nt : Nat) (wait : Bool) (mode : AMode) (tmps : Tree AV) (todo : List AItem) (tmps' : Array Value) (todo' : List Item) : Prop :=
  match mode with
  | .run => TodoRel φ q nt wait tmps todo tmps' todo'
  | _ => q = [] ∧ TRel φ tmps tmps'

def RoundRel (φ : Inj) : Option Nat → Option Nat → Prop
  | none, r => r = none
  | some l, r => ∃ N d, φ l = some (N, d) ∧ r = some N

structure FRel (φ : Inj) (q : List Nat) (wait : Bool) (a : AFrame) (fr : Frame) : Prop where
  fn : fr.fn = a.base.fn
  kind : fr.kind = a.base.kind
  nt : fr.tmps.size = a.base.nt
  own : a.base.roundOf ≠ none → a.base.kind = .normal
  keep : KeepOk a.base.keep a.tmps
  round : RoundRel φ a.base.roundOf fr.roundOf
  defers : DefersRel φ a.defers fr.defers
  mode : ModeRel φ a.mode fr.mode
  body : BodyRel φ q a.base.nt wait a.mode a.tmps a.todo fr.tmps fr.todo

/-- The callers, and what is pending in them. -/
inductive SRel (φ : Inj) : List Nat → List AFrame → List Frame → Prop where
  | nil : SRel φ [] [] []
  | cons {q Q a fr cs cs'} (h : FRel φ q true a fr) (t : SRel φ Q cs cs') : SRel φ (q ++ Q) (a :: cs) (fr :: cs')

/-- The last frame is the function's own. -/
def Bot (f : FuncId) : ABase → List AFrame → Prop
  | b, [] => b.fn = f ∧ b.kind = .normal ∧ b.roundOf = none
  | b, a :: r => (b.kind = .normal → a.mode = .run) ∧ (b.kind = .deferred → a.mode ≠ .run) ∧ Bot f a.base r

/-! What grows keeps -/

theorem PanRel.mono (h : φ.le ψ) {c : List APanic} {c' : List PanicEntry} (r : PanRel φ c c') : PanRel ψ c c' := by
  induction r with
  | nil => exact .nil
  | cons hv _ ih => exact .cons (hv.mono h) ih
theorem ModeRel.mono (h : φ.le ψ) {m : AMode} {m' : FrameMode} (r : ModeRel φ m m') : ModeRel ψ m m' := by
  cases m with
  | run => exact r
  | returning => exact r
  | panicking c => obtain ⟨c', e, hc⟩ := r; exact ⟨c', e, hc.mono h⟩
theorem ItemRel.mono (h : φ.le ψ) {a : AItem} {i : Item} (r : ItemRel φ a i) : ItemRel ψ a i := by
  cases a <;> first | exact r | (obtain ⟨N, d, e, q⟩ := r; exact ⟨N, d, (h _ _ e).1, q⟩)
theorem KRel.mono (h : φ.le ψ) {k : List AItem} {k' : List Item} (r : KRel φ k k') : KRel ψ k k' := by
  induction r with
  | nil => exact .nil
  | cons hi _ ih => exact .cons (hi.mono h) ih
theorem RegRel.mono (h : φ.le ψ) {nt : Nat} {ops : Array Oper} {rest : List Oper} {prev : List (Option Tmp)} {vals : List AV} {tmps : Tree AV} {tmps' : Array Value} {is : List Nat}
    (r : RegRel φ nt ops rest prev vals tmps tmps' is) : RegRel ψ nt ops rest prev vals tmps tmps' is := by
  obtain ⟨done, h1, h2, h3, h4, h5, h6⟩ := r
  exact ⟨done, h1, h2, h3, h4, h5, fun t => let ⟨a, ha, hr⟩ := h6 t; ⟨a, ha, hr.mono h⟩⟩
theorem DrawRel.mono (h : φ.le ψ) {q : List Nat} {nt : Nat} {ops : Array Oper} {s c : Nat} {vals tmps : Tree AV} {tmps' : Array Value} {is : List Nat} (r : DrawRel φ q nt ops s c vals tmps tmps' is) :
    DrawRel ψ q nt ops s c vals tmps tmps' is := by
  obtain ⟨Pl, fuel, t, listed, D, h1, h2⟩ := r
  exact ⟨Pl, fuel, t, listed, ⟨D.plan, D.size, D.down, D.acts, D.le, D.told, D.untold, fun i o hi hl => let ⟨a, ha, hd⟩ := D.done i o hi hl; ⟨a, ha, fun d e => (hd d e).mono h⟩, fun t ht => (D.old t ht).mono h, D.pend, D.dsts⟩, h1, h2⟩
theorem TodoRel.mono (h : φ.le ψ) {q : List Nat} {nt : Nat} {wait : Bool} {tmps : Tree AV} {todo : List AItem} {tmps' : Array Value} {todo' : List Item} (r : TodoRel φ q nt wait tmps todo tmps' todo') :
    TodoRel ψ q nt wait tmps todo tmps' todo' := by
  revert r
  unfold TodoRel
  split
  · rintro ⟨h0, is, k', h1, h2, h3⟩
    exact ⟨h0, is, k', h1, h2.mono h, h3.mono h⟩
  · rintro ⟨is, k', h1, h2, h3, h4⟩
    exact ⟨is, k', h1, h2.mono h, h3.mono h, h4⟩
  · rintro ⟨h0, h1, h2⟩
    exact ⟨h0, h1.mono h, h2.mono h⟩
theorem BodyRel.mono (h : φ.le ψ) {q : List Nat} {nt : Nat} {wait : Bool} {mode : AMode} {tmps : Tree AV} {todo : List AItem} {tmps' : Array Value} {todo' : List Item} (r : BodyRel φ q nt wait mode tmps todo tmps' todo') :
    BodyRel ψ q nt wait mode tmps todo tmps' todo' := by
  cases mode with
  | run => exact TodoRel.mono h r
  | returning => exact ⟨r.1, r.2.mono h⟩
  | panicking c => exact ⟨r.1, r.2.mono h⟩
theorem RoundRel.mono (h : φ.le ψ) {a r : Option Nat} (x : RoundRel φ a r) : RoundRel ψ a r := by
  cases a with
  | none => exact x
  | some l => obtain ⟨N, d, e, q⟩ := x; exact ⟨N, d, (h _ _ e).1, q⟩
theorem FRel.mono (h : φ.le ψ) {q : List Nat} {wait : Bool} {a : AFrame} {fr : Frame} (r : FRel φ q wait a fr) : FRel ψ q wait a fr :=
  ⟨r.fn, r.kind, r.nt, r.own, r.keep, r.round.mono h, r.defers.mono h, r.mode.mono h, r.body.mono h⟩
theorem SRel.mono (h : φ.le ψ) {Q : List Nat} {cs : List AFrame} {cs' : List Frame} (r : SRel φ Q cs cs') : SRel ψ Q cs cs' := by
  induction r with
  | nil => exact .nil
  | cons hf _ ih => exact .cons (hf.mono h) ih

/-! What is pending -/

theorem Rel.lessQ {Q' : List Nat} (R : Rel B w₀ Q φ A w) (h : ∀ b ∈ Q', b ∈ Q) : Rel B w₀ Q' φ A w :=
  ⟨R.below, R.base, R.fresh, R.bound, R.obj, R.own, R.sep, R.mem, fun b hb => R.pend b (h b hb)⟩

/-- A row that is made here, but not yet in the model. -/
theorem Rel.ghost (R : Rel B w₀ Q φ A w) {e : TypeId} {cs : List AV} {b : Nat} (he : A.newRow e cs = (b, A')) : b = A.next ∧ Rel B w₀ (b :: Q) φ A' w := by
  obtain ⟨objs, nx, cls⟩ := A
  simp only [AHeap.newRow, mkHeap_eq] at he
  simp only [Prod.mk.injEq] at he
  obtain ⟨h1, h2⟩ := he
  subst h2; subst h1
  refine ⟨rfl, ?_⟩
  have hfr := R.fresh nx (Nat.le_refl _)
  have gets : ∀ b x N d, (objs.put nx (some (.row nx 0 cs.length (Tree.ofList cs 0 .leaf) e true))).get b = some x → φ b = some (N, d) → objs.get b = some x := by
    intro b x N d h hφ
    by_cases hb : b = nx
    · subst hb; rw [hfr.1] at hφ; cases hφ
    · rw [Tree.get_put_ne _ _ _ hb] at h; exact h
  refine ⟨R.below, R.base, ?_, R.bound, fun b o N d h hφ => R.obj b o N d (gets b o N d h hφ) hφ, fun b o N d h hφ => R.own b o N d (gets b o N d h hφ) hφ, ?_, ?_, ?_⟩
  · intro b hb
    have hb' : nx + 1 ≤ b := hb
    refine ⟨(R.fresh b (by show nx ≤ b; omega)).1, ?_⟩
    show (objs.put nx _).get b = none
    rw [Tree.get_put_ne _ _ _ (by omega)]
    exact (R.fresh b (by show nx ≤ b; omega)).2
  · intro b₁ b₂ o₁ o₂ N d₁ d₂ hne h1 h2 g1 g2
    exact R.sep b₁ b₂ o₁ o₂ N d₁ d₂ hne h1 h2 (gets _ _ _ _ g1 h1) (gets _ _ _ _ g2 h2)
  · intro b c lo hi cells el h
    replace h : (objs.put nx _).get b = some _ := h
    by_cases hb : b = nx
    · subst hb
      rw [Tree.get_put_self] at h; cases h
      exact ⟨Nat.lt_succ_self _, [b], Tree.get_put_self _ _ _, by simp⟩
    · rw [Tree.get_put_ne _ _ _ hb] at h
      obtain ⟨h1, ms, h2, h3⟩ := R.mem b c lo hi cells el h
      replace h1 : c < nx := h1
      exact ⟨by show c < nx + 1; omega, ms, by show (cls.put nx _).get c = _; rw [Tree.get_put_ne _ _ _ (by omega)]; exact h2, h3⟩
  · intro b hb
    rcases List.mem_cons.1 hb with rfl | hb
    · exact ⟨hfr.1, by show b < b + 1; omega⟩
    · obtain ⟨h1, h2⟩ := R.pend b hb
      replace h2 : b < nx := h2
      exact ⟨h1, by show b < nx + 1; omega⟩

theorem cellsAt_get {lo hi : Nat} {cells : Tree AV} : ∀ (n o : Nat) {l : List AV}, cellsAt lo hi cells o n = some l → ∀ i (h : i < l.length), getTmp cells (o + i) = l[i]
  | 0, o, l, h, i, hi => by rw [cellsAt_zero] at h; cases h; simp at hi
  | n + 1, o, l, h, i, hi => by
    rw [cellsAt_succ] at h
    obtain ⟨x, y, hx, hy, rfl⟩ := consOpt_some h
    cases i with
    | zero => obtain ⟨_, _, e⟩ := cellAt_some hx; simpa using e
    | succ i =>
      have := cellsAt_get n (o + 1) hy i (by simpa using hi)
      rw [show o + (i + 1) = o + 1 + i by omega, this]
      simp

/-- A row that was made here before is made in the model. -/
theorem Rel.born {b : Nat} (hb : b ∉ Q) (R : Rel B w₀ (b :: Q) φ A w) {c : Nat} {cells : Tree AV} {e : TypeId} {cs : List AV} {cs' : Array Value} (hg : A.objs.get b = some (.row c 0 cs.length cells e true))
    (hc : cellsAt 0 cs.length cells 0 cs.length = some cs) (hr : LRel φ cs cs'.toList) :
    φ.le (φ.put b (w.heap.size, 0) cs'.size) ∧ Rel B w₀ Q (φ.put b (w.heap.size, 0) cs'.size) A (w.alloc (.cells cs' e)) := by
  obtain ⟨hfr, hlt⟩ := R.pend b (by simp)
  have hle : φ.le (φ.put b (w.heap.size, 0) cs'.size) := Inj.le_put _ _ hfr
  refine ⟨hle, R.below.alloc R.base _, ?_, ?_, ?_, ?_, ?_, ?_, R.mem, ?_⟩
  · have := R.base; simp; omega
  · intro k hk
    have hne : k ≠ b := by omega
    exact ⟨by rw [Inj.put_ne _ _ _ hne]; exact (R.fresh k hk).1, (R.fresh k hk).2⟩
  · intro k N d h
    by_cases hne : k = b
    · subst hne; rw [Inj.put_self] at h; cases h; simp
    · rw [Inj.put_ne _ _ _ hne] at h
      have := R.bound k N d h; simp; omega
  · intro k x N d hx h
    by_cases hne : k = b
    · subst hne
      rw [Inj.put_self] at h; cases h
      rw [hg] at hx; cases hx
      refine ⟨.cells cs' e, by rw [heap_push]; simp, cs', (0, 0), rfl, fun _ => ⟨rfl, (Inj.sz_self _ _ _ _).symm⟩, fun i hl hi => ⟨i, by simp, ?_⟩⟩
      obtain ⟨v, hv, hrel⟩ := LRel.get i hr (by omega)
      refine ⟨v, by simpa using hv, ?_⟩
      have := cellsAt_get cs.length 0 hc i (by omega)
      rw [Nat.zero_add] at this
      rw [this]
      exact hrel.mono hle
    · rw [Inj.put_ne _ _ _ hne] at h
      obtain ⟨y, hy, hyr⟩ := R.obj k x N d hx h
      refine ⟨y, ?_, by rw [Inj.sz_ne _ _ _ hne]; exact hyr.mono hle⟩
      rw [heap_push, if_neg (by have := R.bound k N d h; omega)]; exact hy
  · intro k x N d hx h ho
    by_cases hne : k = b
    · subst hne; rw [Inj.put_self] at h; cases h; exact R.base
    · rw [Inj.put_ne _ _ _ hne] at h; exact R.own k x N d hx h ho
  · intro b₁ b₂ o₁ o₂ N d₁ d₂ hne h1 h2 g1 g2 ho
    by_cases e1 : b₁ = b
    · subst e1
      rw [Inj.put_self] at h1; cases h1
      rw [Inj.put_ne _ _ _ (Ne.symm hne)] at h2
      have := R.bound b₂ _ _ h2; omega
    · by_cases e2 : b₂ = b
      · subst e2
        rw [Inj.put_self] at h2; cases h2
        rw [Inj.put_ne _ _ _ e1] at h1
        have := R.bound b₁ _ _ h1; omega
      · rw [Inj.put_ne _ _ _ e1] at h1; rw [Inj.put_ne _ _ _ e2] at h2
        exact R.sep b₁ b₂ o₁ o₂ N d₁ d₂ hne h1 h2 g1 g2 ho
  · intro k hk
    have hne : k ≠ b := by rintro rfl; exact hb hk
    obtain ⟨h1, h2⟩ := R.pend k (by simp [hk])
    exact ⟨by rw [Inj.put_ne _ _ _ hne]; exact h1, h2⟩
end
end Go.Abs
