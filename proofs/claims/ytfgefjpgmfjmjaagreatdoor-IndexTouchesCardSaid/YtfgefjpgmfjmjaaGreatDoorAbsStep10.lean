/- Steps of a whole machine: regions that draw, loops over functions. -/
import Derived.Test.YtfgefjpgmfjmjaaGreatDoorAbsStep9
namespace Go.Abs
open Go.RowKit (Below)

section
variable {T : Tabs} {P : Program} {B : Nat} {Q : List Nat} {w₀ w w' : World} {φ ψ : Inj} {A A' : AHeap} {f : FuncId} {cs₀ : List Frame}
variable {base : ABase} {tmps : Tree AV} {k : List AItem} {defers : List ADefer} {cs : List AFrame} {cs' : List Frame} {fn : FuncId} {tmps' : Array Value} {k' : List Item} {rd : List Deferred} {kind : CallKind} {ro : Option Nat}

theorem st_draw {id : Nat} {ops : Array Oper} (hm : P.follows .mixedOrders = true) :
    ∃ t, Go.step P (lone ⟨fn, tmps', .code (.region id ops true) :: k', rd, .run, kind, ro⟩ cs₀ w) = .next (lone ⟨fn, tmps', .inRegion ops (Region.linearise .any ops t) :: k', rd, .run, kind, ro⟩ cs₀ w.drew) :=
  ⟨w.tape w.drawn (.order fn id), step_lone_go (by simp [stepG, stepG.exec, choose, Sem.run, Question.forced, Question.cut, Region.schedule, hm])⟩

theorem getD_none (n i : Nat) (b : Bool) (h : i < n) : (Array.replicate n false).getD i b = false := by
  simp [Array.getD_eq_getD_getElem?, h]
theorem draw_start {ops : Array Oper} {Pl : Plan} {nt : Nat} (hp : plan ops = some Pl) (hd : dstsIn nt ops.toList = true) (ht : TRel φ tmps tmps') : Draw φ [] nt ops Pl 0 0 .leaf tmps tmps' (Array.replicate ops.size false) := by
  refine ⟨hp, by simp, ?_, ?_, Nat.zero_le _, ?_, ?_, ?_, fun t _ => ht t, ?_, hd⟩
  · intro i o ho hl
    rw [getD_none _ _ _ (lt_of_some ho)] at hl; cases hl
  · intro j a ha
    obtain ⟨o, ho, _⟩ := act_is hp ha
    rw [getD_none _ _ _ (lt_of_some ho)]
    constructor
    · intro h; cases h
    · intro h; omega
  · intro i o m _ _ _ h; omega
  · intro i o m _ _ _ _; rfl
  · intro i o ho hl
    rw [getD_none _ _ _ (lt_of_some ho)] at hl; cases hl
  · have : pendOf ops.toList .leaf (Array.replicate ops.size false) = [] := by
      unfold pendOf
      rw [List.filterMap_eq_nil_iff]
      intro i _
      unfold pendAt
      split
      · split <;> rfl
      · rfl
    rw [this]

theorem drawn_sim (H : T.Ok P) (G : GlobOk T φ) {id : Nat} {ops : Array Oper} (F : FRel φ [] false ⟨base, tmps, .code (.region id ops true) :: k, defers, .run⟩ ⟨fn, tmps', .code (.region id ops true) :: k', rd, .run, kind, ro⟩) (hk : KRel φ k k') (ht : TRel φ tmps tmps')
    (S : SRel φ Q cs cs') (R : Rel B w₀ Q φ A w) (hn : Q.Nodup) (hb : Bot f base cs) (hd : dstsIn base.nt ops.toList = true) :
    SOut P T B w₀ f cs₀ (lone ⟨fn, tmps', .code (.region id ops true) :: k', rd, .run, kind, ro⟩ (cs' ++ cs₀) w) (stepDraw T base tmps defers cs A ops 0 .leaf k) := by
  cases hp : plan ops with
  | none =>
    unfold stepDraw
    rw [hp]
    trivial
  | some Pl =>
    obtain ⟨t, hs⟩ := st_draw (fn := fn) (tmps' := tmps') (k' := k') (rd := rd) (kind := kind) (ro := ro) (cs₀ := cs' ++ cs₀) (w := w) (id := id) (ops := ops) H.mixed
    refine SOut.of_steps (Steps.one hs) ?_
    refine stepDraw_sim (q := []) H G ⟨F.fn, F.kind, F.nt, F.own, F.keep, F.round, F.defers, rfl, _, k', rfl, hk, ⟨Pl, ops.size, t, _, draw_start hp hd ht, rfl, ?_⟩, fun h => by cases h⟩ S R.drew hn hb
    unfold unlisted
    refine Nat.le_trans (List.length_filter_le _ _) ?_
    simp
end
end Go.Abs
