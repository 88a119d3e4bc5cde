/- What the machine tells of a run is what the model's call does. -/
import Derived.Test.YtfgefjpgmfjmjaaGreatDoorAbsStep12
namespace Go.Abs
open Go.RowKit (Below)

noncomputable section
variable {T : Tabs} {P : Program} {B : Nat} {Q : List Nat} {w₀ w w' : World} {φ ψ : Inj} {A A' : AHeap} {f : FuncId}

/-- The variables of the program stand for themselves. -/
def inj0 (n : Nat) : Inj := ⟨fun g => if g < n then some (g, 0) else none, fun _ => 0⟩
def heap0 (n : Nat) : AHeap := ⟨.leaf, n, .leaf⟩

theorem rel0 (n : Nat) (h : n ≤ w.heap.size) : Rel w.heap.size w [] (inj0 n) (heap0 n) w := by
  refine ⟨Below.refl _ _, Nat.le_refl _, ?_, ?_, ?_, ?_, ?_, ?_, ?_⟩
  · intro b hb
    have hb' : n ≤ b := hb
    exact ⟨if_neg (by omega), rfl⟩
  · intro b N d hb
    show N < w.heap.size
    change (if b < n then some (b, (0 : Int)) else none) = some (N, d) at hb
    split at hb
    · cases hb; omega
    · cases hb
  · intro b o N d hg; cases hg
  · intro b o N d hg; cases hg
  · intro b₁ b₂ o₁ o₂ N d₁ d₂ _ _ _ hg; cases hg
  · intro b c lo hi cs e hg; cases hg
  · intro b hb; cases hb

/-- A call of a function with what is told of its arguments. -/
def runCall (T : Tabs) (n : Nat) (f : FuncId) (args : List AV) : AStep :=
  match enterFrame T f args .normal with
  | some c => run T n ⟨c, [], heap0 T.glob⟩
  | none => .fail

theorem runCall_calls (H : T.Ok P) (hg : T.glob ≤ w.heap.size) {n : Nat} {args : List AV} {args' : Array Value} (ha : LRel (inj0 T.glob) args args'.toList) {v : AV} (hr : runCall T n f args = .done v A) :
    Calls P f args' w fun e w' => ∃ v' φ, e = .returned v' ∧ VRel φ v v' ∧ Rel w.heap.size w [] φ A w' := by
  intro cs₀
  unfold runCall at hr
  split at hr
  · rename_i c hc
    obtain ⟨F, e1, e2, e3, e4⟩ := enter_rel H hc ha
    have hst : St T w.heap.size w f cs₀ ⟨c, [], heap0 T.glob⟩ (lone (Frame.enter P f args' .normal) cs₀ w) :=
      ⟨inj0 T.glob, [], [], _, [], w, rfl, fun g h => if_pos h, F, .nil, rel0 T.glob hg, List.nodup_nil, e1, e2, e3⟩
    have h := run_sim (cs₀ := cs₀) H n hst
    rw [hr] at h
    obtain ⟨φ, fr, w', v', h1, h2, h3, h4, h5⟩ := h
    exact ⟨.returned v', w', fr, ⟨v', φ, rfl, h4, h5⟩, h1, h2, h3⟩
  · cases hr

/-- Did a run end with 'true'? -/
def toldTrue : AStep → Bool
  | .done (.bool true) _ => true
  | _ => false
theorem toldTrue_eq {r : AStep} (h : toldTrue r = true) : ∃ A, r = .done (.bool true) A := by
  unfold toldTrue at h
  split at h
  · exact ⟨_, rfl⟩
  · cases h

/-- A call that ends with 'true', by the machine. -/
theorem runCall_true (H : T.Ok P) (hg : T.glob ≤ w.heap.size) {n : Nat} (h : toldTrue (runCall T n f []) = true) : Calls P f #[] w fun e w' => e = .returned (.bool true) ∧ Below w.heap.size w w' := by
  obtain ⟨A, hr⟩ := toldTrue_eq h
  refine (runCall_calls (args' := #[]) H hg (by simp only [LRel]) hr).mono fun e w' h => ?_
  obtain ⟨v', φ, he, hv, hR⟩ := h
  simp only [VRel] at hv
  subst hv
  exact ⟨he, hR.below⟩
end
end Go.Abs
