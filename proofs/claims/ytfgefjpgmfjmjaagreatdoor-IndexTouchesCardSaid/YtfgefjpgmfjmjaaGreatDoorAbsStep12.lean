/- One step of a whole machine. -/
import Derived.Test.YtfgefjpgmfjmjaaGreatDoorAbsStep11
namespace Go.Abs
open Go.RowKit (Below)

section
variable {T : Tabs} {P : Program} {B : Nat} {Q : List Nat} {w₀ w w' : World} {φ ψ : Inj} {A A' : AHeap} {f : FuncId} {cs₀ : List Frame}
variable {base : ABase} {tmps : Tree AV} {k : List AItem} {defers : List ADefer} {cs : List AFrame} {cs' : List Frame} {fn : FuncId} {tmps' : Array Value} {k' : List Item} {rd : List Deferred} {kind : CallKind} {ro : Option Nat}

theorem code_sim (H : T.Ok P) (G : GlobOk T φ) {c : Code} (F : FRel φ [] false ⟨base, tmps, .code c :: k, defers, .run⟩ ⟨fn, tmps', .code c :: k', rd, .run, kind, ro⟩) (hk : KRel φ k k') (ht : TRel φ tmps tmps')
    (S : SRel φ Q cs cs') (R : Rel B w₀ Q φ A w) (hn : Q.Nodup) (hb : Bot f base cs) :
    SOut P T B w₀ f cs₀ (lone ⟨fn, tmps', .code c :: k', rd, .run, kind, ro⟩ (cs' ++ cs₀) w) ((codeOf T c).go base tmps defers cs A k) := by
  cases c with
  | skip => exact goTo_sim G F ht S R hn hb hk st_skip
  | label l => exact goTo_sim G F ht S R hn hb hk st_label
  | seq a b => exact goTo_sim G F ht S R hn hb (.cons rfl (.cons rfl hk)) st_seq
  | cond x a b => exact cond_sim G F hk ht S R hn hb
  | block id body => exact goTo_sim G F ht S R hn hb (.cons rfl (.cons rfl hk)) st_block
  | loop body => exact goTo_sim G F ht S R hn hb (.cons rfl (.cons rfl hk)) st_loop
  | scope body => exact goTo_sim G F ht S R hn hb (.cons rfl (.cons rfl hk)) st_scope
  | ret => exact ret_sim (jump := some .ret) G (.inr ⟨k', rfl, rfl⟩) F ht S R hn hb
  | exit id => exact exit_sim G F hk ht S R hn hb
  | goto l => exact goto_sim G F hk ht S R hn hb
  | region id ops draw =>
    show SOut P T B w₀ f cs₀ _ (startRegion T base tmps defers cs A ops draw k)
    unfold startRegion
    cases hd : dstsIn base.nt ops.toList with
    | false => cases draw <;> trivial
    | true =>
      cases draw with
      | true => exact drawn_sim H G F hk ht S R hn hb hd
      | false => exact plain_sim H G F hk ht S R hn hb hd
  | rangeFunc x ps a b => exact rangeFunc_sim H G F hk ht S R hn hb
  | refuse _ => trivial

theorem item_sim (H : T.Ok P) (G : GlobOk T φ) {q : List Nat} {it : AItem} {todo' : List Item} (F : FRel φ q false ⟨base, tmps, it :: k, defers, .run⟩ ⟨fn, tmps', todo', rd, .run, kind, ro⟩)
    (S : SRel φ Q cs cs') (R : Rel B w₀ (q ++ Q) φ A w) (hn : (q ++ Q).Nodup) (hb : Bot f base cs) :
    SOut P T B w₀ f cs₀ (lone ⟨fn, tmps', todo', rd, .run, kind, ro⟩ (cs' ++ cs₀) w) (stepItem T base tmps defers cs A it k) := by
  cases it with
  | inRegion ops rest prev vals =>
    have hbd := F.body
    obtain ⟨rfl, is, k', rfl, hk, hr⟩ := hbd
    exact stepRegion_sim H G F S R hn hb
  | inDraw ops s vals =>
    have hbd := F.body
    obtain ⟨is, k', rfl, hk, hr⟩ := hbd
    exact stepDraw_sim H G F S R hn hb
  | code c =>
    have hbd := F.body
    obtain ⟨rfl, hk, ht⟩ := hbd
    cases hk with
    | cons hi hk =>
      cases hi
      exact code_sim H G F hk ht S R hn hb
  | inBlock id =>
    have hbd := F.body
    obtain ⟨rfl, hk, ht⟩ := hbd
    cases hk with
    | cons hi hk =>
      cases hi
      exact goTo_sim G F ht S R hn hb hk st_inBlock
  | inScope id =>
    have hbd := F.body
    obtain ⟨rfl, hk, ht⟩ := hbd
    cases hk with
    | cons hi hk =>
      cases hi
      exact goTo_sim G F ht S R hn hb hk st_inScope
  | inLoop id =>
    have hbd := F.body
    obtain ⟨rfl, hk, ht⟩ := hbd
    cases hk with
    | cons hi hk =>
      cases hi
      exact goTo_sim G F ht S R hn hb (.cons rfl (.cons rfl hk)) st_inLoop
  | inRangeFunc l => trivial
  | endRangeFunc l =>
    have hbd := F.body
    obtain ⟨rfl, hk, ht⟩ := hbd
    cases hk with
    | cons hi hk =>
      obtain ⟨N, d, hφ, rfl⟩ := hi
      exact endRange_sim G hφ F hk ht S R hn hb
  | beginRound =>
    have hbd := F.body
    obtain ⟨rfl, hk, ht⟩ := hbd
    cases hk with
    | cons hi hk =>
      cases hi
      exact begin_sim G F hk ht S R hn hb

/-- What the machine tells of a step is what the model does in some steps. -/
theorem step_sim (H : T.Ok P) {s : ASt} {m : Machine} (h : St T B w₀ f cs₀ s m) : SOut P T B w₀ f cs₀ m (step T s) := by
  obtain ⟨φ, q, Q, fr, cs', w, rfl, G, F, S, R, hn, hb⟩ := h
  obtain ⟨⟨base, tmps, todo, defers, mode⟩, cs, A⟩ := s
  simp only at F S R hb
  obtain ⟨fn, tmps', todo', rd, rmode, kind, ro⟩ := fr
  cases mode with
  | run =>
    have hm : rmode = .run := F.mode
    subst hm
    cases todo with
    | nil =>
      have hbd := F.body
      obtain ⟨rfl, hk, ht⟩ := hbd
      cases hk
      exact ret_sim (jump := none) G (.inl ⟨rfl, rfl⟩) F ht S R hn hb
    | cons it k => exact item_sim H G F S R hn hb
  | returning =>
    have hbd := F.body
    obtain ⟨rfl, ht⟩ := hbd
    exact stepDefers_sim H G (by intro h; cases h) F S R hn hb (fun e => by subst e; exact return_sim H G F S R hn hb)
  | panicking chain =>
    have hbd := F.body
    obtain ⟨rfl, ht⟩ := hbd
    exact stepDefers_sim H G (by intro h; cases h) F S R hn hb (fun e => by subst e; exact panicking_sim H G F S R hn hb)

theorem run_succ (n : Nat) (s : ASt) : run T (n + 1) s = onward (run T n) (step T s) := rfl
theorem run_sim (H : T.Ok P) : ∀ (n : Nat) {s : ASt} {m : Machine}, St T B w₀ f cs₀ s m → SOut P T B w₀ f cs₀ m (run T n s)
  | 0, _, _, _ => trivial
  | n + 1, s, m, h => by
    have h1 := step_sim (cs₀ := cs₀) H h
    rw [run_succ]
    cases hs : step T s with
    | cont s' =>
      rw [hs] at h1
      obtain ⟨m', h2, h3⟩ := h1
      exact SOut.of_steps h2 (run_sim H n h3)
    | done v A => rw [hs] at h1; exact h1
    | died c A => trivial
    | fail => trivial
end
end Go.Abs
